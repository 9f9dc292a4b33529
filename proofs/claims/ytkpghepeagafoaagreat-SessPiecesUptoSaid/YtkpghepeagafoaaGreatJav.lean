/-
  What is encoded is decoded: items, texts, attributes, changes. Nothing here speaks of a program.
  What is encoded is decoded: pieces, filters. Nothing here speaks of a program.
  What is encoded is decoded: operations, requests. Nothing here speaks of a program.
  How heavy a request is: the contracts of the law's weight, filter, heavy.
  Arguments as data, of types that hold themselves: the form's reading, so deep. Nothing here speaks of a program; no conditions.
  Arguments as data, with how heavy they are: for the statements of bounded bulk. Nothing here speaks of a function; no conditions.
-/
import Derived.Test.YtkpghepeagafoaaGreatJau
import Derived.Test.YtkpghepeagafoaaGreatJal
import Derived.Test.YtkpghepeagafoaaGreatJat
import Derived.Test.YtkpghepeagafoaaGreatJas
import Derived.Test.YtkpghepeagafoaaGreatJao
import Derived.Test.YtkpghepeagafoaaGreatJam
import Derived.Test.YtkpghepeagafoaaGreatRows
import Derived.Deep.CondSized
import Derived.JoinedCond
set_option linter.unusedSimpArgs false
set_option linter.unusedVariables false
set_option linter.unusedVariables false
namespace Go.Ms
open Go.Vk
open Go.Fi (Fil)
theorem tot_flat : ∀ ls : List (List UInt8), Ber.tot ls = ls.flatten.length := fun ls => by simp [Ber.tot, List.length_flatten]
theorem tagB_flat (t : UInt8) (ls : List (List UInt8)) : Ber.tagB t ls = Ber.tagB t [ls.flatten] := by
  simp [Ber.tagB, tot_flat]
def itB (x : It) : List UInt8 := Ber.tagB x.1 [x.2]
def bodyB (l : List It) : List UInt8 := (l.map itB).flatten
theorem tagB_it (t : UInt8) (l : List It) : Ber.tagB t (l.map itB) = itB (t, bodyB l) := tagB_flat t _
theorem it_len (x : It) : x.2.length + 2 ≤ (itB x).length := by
  unfold itB
  rw [Ber.tagB_one]
  have h : 1 ≤ (Ber.lenB (x.2.length : Int)).length := by unfold Ber.lenB; dsimp only; split <;> simp
  simp only [List.length_cons, List.length_append]
  omega
theorem bodyB_cons (x : It) (l : List It) : bodyB (x :: l) = itB x ++ bodyB l := rfl
theorem body_mem {l : List It} {x : It} (h : x ∈ l) : x.2.length + 2 ≤ (bodyB l).length := by
  induction l with
  | nil => cases h
  | cons y r ih =>
    rw [bodyB_cons, List.length_append]
    rcases List.mem_cons.1 h with rfl | h
    · have := it_len x; omega
    · have := ih h; omega
theorem allE_enc : ∀ (l : List It) (k : Nat) (acc : List It), (∀ x ∈ l, Ber.TagOk x.1) → (bodyB l).length < 65536 → (bodyB l).length ≤ k → Ber.allE k (bodyB l) acc = (acc ++ l, 0)
  | [], k, acc, _, _, _ => by rw [Ber.allE_end rfl, List.append_nil]
  | x :: r, k, acc, ht, hl, hk => by
    have h1 := it_len x
    rw [bodyB_cons, List.length_append] at hl hk
    obtain ⟨k, rfl⟩ : ∃ j, k = j + 1 := ⟨k - 1, by omega⟩
    have h2 := Ber.back x.1 (ht x (.head _)) x.2 (bodyB r) (by omega)
    have h3 : Ber.nextB (bodyB (x :: r)) = ⟨x.1, x.2, bodyB r, 0⟩ := h2
    rw [Ber.allE_go (by rw [bodyB_cons, List.length_append]; omega) (by rw [h3]), h3]
    dsimp only
    rw [allE_enc r k _ (fun y hy => ht y (.tail _ hy)) (by omega) (by omega), List.append_assoc]
    rfl
theorem body_all {l : List It} (ht : ∀ x ∈ l, Ber.TagOk x.1) (h : (bodyB l).length < 65536) : allI (bodyB l) = l ∧ badI (bodyB l) = false := by
  have e := allE_enc l (bodyB l).length [] ht h (Nat.le_refl _)
  unfold allI badI
  rw [e]
  exact ⟨rfl, rfl⟩
theorem take_it (t : UInt8) (b : List UInt8) (r : List It) : takeI ((t, b) :: r) false t = (b, r, false) := by
  obtain ⟨_, x, r', h1, _, e⟩ := takeI_is (l := (t, b) :: r) (bad := false) (t := t) (by simp [isI])
  cases h1
  exact e
theorem inn_back {α : Type} {t : UInt8} {its : List It} {k : List It → Bool → α × List It × Bool} {v : α} (r : List It) (ht : ∀ x ∈ its, Ber.TagOk x.1) (h : (bodyB its).length < 65536) (hk : k its false = (v, [], false)) : innM true t k ((t, bodyB its) :: r) false = (v, r, false) := by
  obtain ⟨e1, e2⟩ := body_all ht h
  unfold innM
  rw [take_it]
  dsimp only [xbM, pbM]
  rw [e1, e2, Bool.or_false, hk]
  rfl
theorem repA_back {α : Type} {step : List It → Bool → α × List It × Bool} (hs : Eats step) (f : α → It) : ∀ xs : List α, (∀ x ∈ xs, ∀ r, step (f x :: r) false = (x, r, false)) → repA step (xs.map f) false = (xs, [], false)
  | [], _ => repA_nil false
  | x :: r, h => by
    rw [List.map_cons, repA_go hs (by simp), h x (.head _)]
    dsimp only
    rw [repA_back hs f r (fun y hy => h y (.tail _ hy))]
def textIt (s : List UInt8) : It := (4, s)
def textsIt (t : UInt8) (l : List (List UInt8)) : It := (t, bodyB (l.map textIt))
def attIt (t : List UInt8) (l : List (List UInt8)) : It := (48, bodyB [textIt t, textsIt 49 l])
def attrIt (a : En.Attr) : It := attIt a.typ a.vals
def attrsIt (l : List En.Attr) : It := (48, bodyB (l.map attrIt))
def modIt (m : Mod) : It := (48, bodyB [(10, Ber.intB m.kind), attIt m.typ m.vals])
def modsIt (l : List Mod) : It := (48, bodyB (l.map modIt))
theorem textB_it (s : List UInt8) : textB s = itB (textIt s) := rfl
theorem map_it {α : Type} {f : α → List UInt8} {g : α → It} (h : ∀ a, f a = itB (g a)) (l : List α) : l.map f = (l.map g).map itB := by
  rw [List.map_map]; exact List.map_congr_left (fun a _ => h a)
theorem textsB_it (t : UInt8) (l : List (List UInt8)) : textsB t l = itB (textsIt t l) := by
  unfold textsB; rw [map_it textB_it, tagB_it]; rfl
theorem attB_it (t : List UInt8) (l : List (List UInt8)) : attB t l = itB (attIt t l) := by
  unfold attB; rw [textsB_it, textB_it]; exact tagB_it 48 [textIt t, textsIt 49 l]
theorem attrB_it (a : En.Attr) : attrB a = itB (attrIt a) := attB_it _ _
theorem attrsB_it (l : List En.Attr) : attrsB l = itB (attrsIt l) := by
  unfold attrsB; rw [map_it attrB_it, tagB_it]; rfl
theorem modB_it (m : Mod) : modB m = itB (modIt m) := by
  unfold modB; rw [attB_it]; exact tagB_it 48 [(10, Ber.intB m.kind), attIt m.typ m.vals]
theorem modsB_it (l : List Mod) : modsB l = itB (modsIt l) := by
  unfold modsB; rw [map_it modB_it, tagB_it]; rfl
theorem text_back (s : List UInt8) (r : List It) : textI (textIt s :: r) false = (s, r, false) := take_it 4 s r
theorem texts_back {t : UInt8} {l : List (List UInt8)} (r : List It) (h : (textsIt t l).2.length < 65536) : textsM true t (textsIt t l :: r) false = (l, r, false) := by
  unfold textsM textsIt
  refine inn_back r (fun x hx => ?_) h (repA_back textI_eats _ l (fun s _ r => text_back s r))
  obtain ⟨s, _, rfl⟩ := List.mem_map.1 hx
  show Ber.TagOk 4
  decide
theorem att_back {t : List UInt8} {l : List (List UInt8)} (r : List It) (h : (attIt t l).2.length < 65536) : attM true (attIt t l :: r) false = ((t, l), r, false) := by
  have h2 : (bodyB [textIt t, textsIt 49 l]).length < 65536 := h
  have h1 := body_mem (l := [textIt t, textsIt 49 l]) (x := textsIt 49 l) (by simp)
  unfold attM attIt
  refine inn_back r ?_ h ?_
  · intro x hx
    rcases List.mem_cons.1 hx with rfl | hx
    · show Ber.TagOk 4; decide
    · rw [List.mem_singleton.1 hx]; show Ber.TagOk 49; decide
  · unfold attK
    rw [text_back]
    dsimp only
    rw [texts_back [] (by omega)]
theorem num_back {t : UInt8} {n : Int} (h : okK n) (r : List It) : numI ((t, Ber.intB n) :: r) false t = (n, r, false) := by
  unfold numI
  rw [take_it, Ber.fromInt_int n h]
  rfl
theorem attr_back {a : En.Attr} (r : List It) (h : (attrIt a).2.length < 65536) : attrM true (attrIt a :: r) false = (a, r, false) := by
  unfold attrM attrIt
  rw [att_back r h]
theorem attrs_back {l : List En.Attr} (r : List It) (h : (attrsIt l).2.length < 65536) : attrsM true (attrsIt l :: r) false = (l, r, false) := by
  have h2 : (bodyB (l.map attrIt)).length < 65536 := h
  unfold attrsM attrsIt
  refine inn_back r (fun x hx => ?_) h (repA_back (attrM_eats true) _ l (fun a ha r => attr_back r ?_))
  · obtain ⟨a, _, rfl⟩ := List.mem_map.1 hx
    show Ber.TagOk 48
    decide
  · have := body_mem (List.mem_map_of_mem (f := attrIt) ha)
    omega
theorem mod_back {m : Mod} (hk : okK m.kind) (r : List It) (h : (modIt m).2.length < 65536) : modM true (modIt m :: r) false = (m, r, false) := by
  have h2 : (bodyB [(10, Ber.intB m.kind), attIt m.typ m.vals]).length < 65536 := h
  have h1 := body_mem (l := [(10, Ber.intB m.kind), attIt m.typ m.vals]) (x := attIt m.typ m.vals) (by simp)
  unfold modM modIt
  refine inn_back r ?_ h ?_
  · intro x hx
    rcases List.mem_cons.1 hx with rfl | hx
    · show Ber.TagOk 10; decide
    · rw [List.mem_singleton.1 hx]; show Ber.TagOk 48; decide
  · unfold modK kindM
    rw [num_back hk]
    dsimp only
    rw [att_back [] (by omega)]
theorem mods_back {l : List Mod} (hk : ∀ m ∈ l, okK m.kind) (r : List It) (h : (modsIt l).2.length < 65536) : modsM true (modsIt l :: r) false = (l, r, false) := by
  have h2 : (bodyB (l.map modIt)).length < 65536 := h
  unfold modsM modsIt
  refine inn_back r (fun x hx => ?_) h (repA_back (modM_eats true) _ l (fun a ha r => mod_back (hk a ha) r ?_))
  · obtain ⟨a, _, rfl⟩ := List.mem_map.1 hx
    show Ber.TagOk 48
    decide
  · have := body_mem (List.mem_map_of_mem (f := modIt) ha)
    omega
end Go.Ms
set_option linter.unusedVariables false
namespace Go.Ms
open Go.Vk
open Go.Fi (Fil)
def endIt (t : UInt8) (s : List UInt8) : List It := if s = [] then [] else [(t, s)]
def midIt (s : List UInt8) : It := (129, s)
def pcsIt (a : List UInt8) (m : List (List UInt8)) (z : List UInt8) : List It := endIt 128 a ++ (m.map midIt ++ endIt 130 z)
theorem pcs_mid (a z : List UInt8) (m : List (List UInt8)) : ∀ j, j ≤ m.length → pcs (a :: (m ++ [z])) (j + 1) = (endIt 128 a ++ (m.take j).map midIt).map itB
  | 0, _ => by
    unfold pcs pcs pieceL endIt
    simp only [List.getD_cons_zero, List.length_cons, List.length_append, List.length_nil]
    rw [if_neg (by omega)]
    split
    · simp
    · simp [itB]
  | j + 1, h => by
    rw [pcs, pcs_mid a z m j (by omega)]
    have e : (a :: (m ++ [z])).getD (j + 1) default = m[j] := by
      rw [List.getD_cons_succ, List.getD_eq_getElem?_getD, List.getElem?_append_left (by omega), List.getElem?_eq_getElem (by omega)]
      rfl
    rw [e, List.take_succ_eq_append_getElem (by omega)]
    unfold pieceL
    rw [if_pos (by simp only [List.length_cons, List.length_append, List.length_nil]; omega)]
    simp only [List.map_append, List.append_assoc]
    rfl
theorem pcs_all (a z : List UInt8) (m : List (List UInt8)) : pcs (a :: (m ++ [z])) (a :: (m ++ [z])).length = (pcsIt a m z).map itB := by
  have e : (a :: (m ++ [z])).length = m.length + 1 + 1 := by simp
  rw [e, pcs, pcs_mid a z m m.length (Nat.le_refl _), List.take_length]
  have e2 : (a :: (m ++ [z])).getD (m.length + 1) default = z := by
    rw [List.getD_cons_succ, List.getD_eq_getElem?_getD, List.getElem?_append_right (Nat.le_refl _)]
    simp
  rw [e2, e]
  unfold pieceL pcsIt endIt
  rw [if_neg (show ¬ (0 < m.length + 1 ∧ m.length + 1 + 1 < m.length + 1 + 1) by omega)]
  simp only [List.map_append, List.append_assoc]
  congr 2
  by_cases hz : z = []
  · rw [if_pos hz, if_pos hz]; rfl
  · rw [if_neg hz, if_neg hz, if_neg (by omega)]; rfl
theorem take_no {t : UInt8} {l : List It} (h : ∀ x r, l = x :: r → x.1 ≠ t) : isI l false t = false := by
  cases l with
  | nil => rfl
  | cons x r => simp [isI, h x r rfl]
theorem may_end {t : UInt8} (s : List UInt8) (r : List It) (h : ∀ x q, r = x :: q → x.1 ≠ t) : mayI (endIt t s ++ r) false t = (s, r, false) := by
  unfold endIt mayI
  by_cases hs : s = []
  · rw [if_pos hs, List.nil_append, take_no h, if_neg (by simp), hs]
  · rw [if_neg hs, List.cons_append, List.nil_append, if_pos (by simp [isI]), take_it]
theorem mid_back : ∀ (m : List (List UInt8)) (r : List It), (∀ x q, r = x :: q → x.1 ≠ 129) → midI (m.map midIt ++ r) = (m, r)
  | [], r, h => by
    cases r with
    | nil => rfl
    | cons x q =>
      rw [List.map_nil, List.nil_append]
      unfold midI
      rw [if_neg (h x q rfl)]
  | s :: m, r, h => by
    rw [List.map_cons, List.cons_append]
    unfold midI
    rw [if_pos (show (midIt s).1 = 129 from rfl), mid_back m r h]
    rfl
def subsIt (a : List UInt8) (m : List (List UInt8)) (z : List UInt8) : It := (48, bodyB (pcsIt a m z))
theorem end_tag {t : UInt8} {s : List UInt8} {x : It} (h : x ∈ endIt t s) : x.1 = t := by
  unfold endIt at h
  split at h
  · cases h
  · rw [List.mem_singleton.1 h]
theorem subs_back {a z : List UInt8} {m : List (List UInt8)} (r : List It) (h : (subsIt a m z).2.length < 65536) : subsM true (subsIt a m z :: r) false = (a :: (m ++ [z]), r, false) := by
  have hz : ∀ x q, endIt 130 z = x :: q → x.1 = 130 := fun x q e => end_tag (s := z) (by rw [e]; exact .head _)
  unfold subsM subsIt
  refine inn_back r (fun x hx => ?_) h ?_
  · unfold pcsIt at hx
    rcases List.mem_append.1 hx with hx | hx
    · rw [end_tag hx]; decide
    rcases List.mem_append.1 hx with hx | hx
    · obtain ⟨s, _, rfl⟩ := List.mem_map.1 hx
      show Ber.TagOk 129
      decide
    · rw [end_tag hx]; decide
  · unfold subsK pcsIt
    rw [may_end a _ (fun x q e => ?_)]
    · dsimp only
      rw [if_neg Bool.false_ne_true, mid_back m _ (fun x q e => by rw [hz x q e]; decide)]
      dsimp only
      have e := may_end (t := 130) z [] (fun x q e => by cases e)
      rw [List.append_nil] at e
      rw [e]
    · cases m with
      | nil => rw [List.map_nil, List.nil_append] at e; rw [hz x q e]; decide
      | cons s m => rw [List.map_cons, List.cons_append] at e; injection e with e1; rw [← e1]; show (129 : UInt8) ≠ 128; decide
theorem pieces_it (a z : List UInt8) (m : List (List UInt8)) : piecesB (a :: (m ++ [z])) = itB (subsIt a m z) := by
  unfold piecesB
  rw [pcs_all, tagB_it]
  rfl
theorem two_parts {l : List (List UInt8)} (h : 2 ≤ l.length) : ∃ a m z, l = a :: (m ++ [z]) := by
  cases l with
  | nil => simp at h
  | cons a r =>
    have hr : r ≠ [] := by intro e; rw [e] at h; simp at h
    exact ⟨a, r.dropLast, r.getLast hr, by rw [List.dropLast_concat_getLast]⟩
/-! ### filters -/
mutual
def filIt : Fil → It
  | .mk k t v s ks => if k = 7 then (135, t) else if k = 4 then (tagF 4, bodyB [textIt t, (48, (pcs s s.length).flatten)]) else if k = 3 ∨ k = 5 ∨ k = 6 then (tagF k, bodyB [textIt t, textIt v]) else (tagF k, bodyB (filsIt ks))
def filsIt : List Fil → List It
  | [] => []
  | f :: r => filIt f :: filsIt r
end
theorem filsIt_map : ∀ l : List Fil, filsIt l = l.map filIt
  | [] => by unfold filsIt; rfl
  | f :: r => by unfold filsIt; rw [filsIt_map r]; rfl
mutual
theorem filB_it : ∀ f : Fil, filB f = itB (filIt f)
  | .mk k t v s ks => by
    unfold filB filIt
    split
    · rfl
    split
    · rw [show piecesB s = itB (48, (pcs s s.length).flatten) from tagB_flat 48 _]
      exact tagB_it _ [textIt t, (48, (pcs s s.length).flatten)]
    split
    · exact tagB_it _ [textIt t, textIt v]
    · rw [filsB_it ks, tagB_it]
theorem filsB_it : ∀ l : List Fil, filsB l = (filsIt l).map itB
  | [] => by unfold filsB filsIt; rfl
  | f :: r => by unfold filsB filsIt; rw [filB_it f, filsB_it r]; rfl
end
theorem oneL_mem : ∀ {l : List Fil} {d : Nat}, Fi.oneL l d = true → ∀ f ∈ l, Fi.oneF f d = true
  | [], d, _, f, h => by cases h
  | g :: r, d, h, f, hf => by
    unfold Fi.oneL at h
    rw [Bool.and_eq_true] at h
    rcases List.mem_cons.1 hf with rfl | hf
    · exact h.1
    · exact oneL_mem h.2 f hf
theorem tagF_ok (k : Int) (h : k = 0 ∨ k = 1 ∨ k = 2 ∨ k = 3 ∨ k = 4 ∨ k = 5 ∨ k = 6) : Ber.TagOk (tagF k) ∧ tagF k ≠ 135 ∧ tagF k ≠ 168 ∧ ¬ (tagF k).toNat < 160 ∧ kindT (tagF k) = k := by
  rcases h with rfl | rfl | rfl | rfl | rfl | rfl | rfl <;> decide +kernel
theorem pair_back {t v : List UInt8} {tg : UInt8} (r : List It) (h : (bodyB [textIt t, textIt v]).length < 65536) : innM true tg pairK ((tg, bodyB [textIt t, textIt v]) :: r) false = ((t, v), r, false) := by
  refine inn_back r (fun x hx => ?_) h ?_
  · rcases List.mem_cons.1 hx with rfl | hx
    · show Ber.TagOk 4; decide
    · rw [List.mem_singleton.1 hx]; show Ber.TagOk 4; decide
  · unfold pairK
    rw [text_back]
    dsimp only
    rw [text_back]
theorem fil_tag : ∀ f : Fil, (∃ d, Fi.oneF f d = true) → Ber.TagOk (filIt f).1
  | .mk k t v s ks, ⟨d, h⟩ => by
    unfold Fi.oneF at h
    rw [Bool.and_eq_true] at h
    have h := h.2
    unfold filIt
    by_cases h7 : k = 7
    · rw [if_pos h7]; show Ber.TagOk 135; decide
    rw [if_neg h7]
    by_cases h4 : k = 4
    · rw [if_pos h4]; exact (tagF_ok 4 (by simp)).1
    rw [if_neg h4]
    by_cases h3 : k = 3 ∨ k = 5 ∨ k = 6
    · rw [if_pos h3]; exact (tagF_ok k (by omega)).1
    rw [if_neg h3]
    by_cases h0 : k = 0 ∨ k = 1 ∨ k = 2
    · exact (tagF_ok k (by omega)).1
    · rw [if_neg h0, if_neg h3, if_neg h4, if_neg h7] at h; cases h
theorem fil_back : ∀ (n : Nat) (f : Fil) (d : Nat), n + d = 17 → Fi.oneF f d = true → (filIt f).2.length < 65536 → ∀ r, filtP n (filIt f :: r) false = (f, r, false)
  | 0, .mk k t v s ks, d, hd, h, _, r => by
    unfold Fi.oneF at h
    rw [Bool.and_eq_true, decide_eq_true_eq] at h
    omega
  | n + 1, .mk k t v s ks, d, hd, h, hl, r => by
    have IH := fil_back n
    have ht := fil_tag _ ⟨d, h⟩
    unfold Fi.oneF at h
    rw [Bool.and_eq_true] at h
    have h := h.2
    unfold filIt at hl ht ⊢
    unfold filtP
    rw [if_neg Bool.false_ne_true]
    by_cases h7 : k = 7
    · subst h7
      rw [if_pos rfl] at hl ht ⊢
      rw [if_neg (by omega), if_neg (by omega), if_neg (by omega), if_pos rfl] at h
      simp only [Bool.and_eq_true, decide_eq_true_eq] at h
      obtain ⟨⟨⟨h1, h2⟩, h3⟩, _⟩ := h
      rw [if_pos rfl, h1, h2, h3]
    rw [if_neg h7] at hl ht ⊢
    by_cases h4 : k = 4
    · subst h4
      rw [if_pos rfl] at hl ht ⊢
      rw [if_neg (by omega), if_neg (by omega), if_pos rfl] at h
      simp only [Bool.and_eq_true, decide_eq_true_eq] at h
      obtain ⟨⟨⟨h1, h2⟩, _⟩, h3⟩ := h
      obtain ⟨_, t2, t3, t4, t5⟩ := tagF_ok 4 (by simp)
      rw [if_neg t2]
      unfold filtT
      dsimp only
      rw [if_neg t3, if_neg t4, t5, if_neg (by omega), if_pos rfl]
      unfold Fi.subsB at h3
      simp only [Bool.and_eq_true, decide_eq_true_eq] at h3
      obtain ⟨a, m, z, rfl⟩ := two_parts h3.1.1.1.1
      have e : ((48 : UInt8), (pcs (a :: (m ++ [z])) (a :: (m ++ [z])).length).flatten) = subsIt a m z := by rw [pcs_all]; rfl
      rw [e] at hl ht ⊢
      dsimp only at hl
      have hb := body_mem (l := [textIt t, subsIt a m z]) (x := subsIt a m z) (by simp)
      rw [inn_back (v := (t, a :: (m ++ [z]))) r ?_ hl ?_, h1, h2]
      · intro x hx
        rcases List.mem_cons.1 hx with rfl | hx
        · show Ber.TagOk 4; decide
        · rw [List.mem_singleton.1 hx]; show Ber.TagOk 48; decide
      · unfold leafK
        rw [text_back]
        dsimp only
        rw [subs_back [] (by omega)]
    rw [if_neg h4] at hl ht ⊢
    by_cases h3 : k = 3 ∨ k = 5 ∨ k = 6
    · rw [if_pos h3] at hl ht ⊢
      rw [if_neg (by omega), if_pos h3] at h
      simp only [Bool.and_eq_true, decide_eq_true_eq] at h
      obtain ⟨⟨⟨h1, h2⟩, _⟩, _⟩ := h
      obtain ⟨_, t2, t3, t4, t5⟩ := tagF_ok k (by omega)
      rw [if_neg t2]
      unfold filtT
      dsimp only
      rw [if_neg t3, if_neg t4, t5, if_neg (by omega), if_neg h4, if_pos (by omega), pair_back r hl, h1, h2]
    rw [if_neg h3] at hl ht ⊢
    by_cases h0 : k = 0 ∨ k = 1 ∨ k = 2
    · rw [if_pos h0] at h
      simp only [Bool.and_eq_true, decide_eq_true_eq] at h
      obtain ⟨⟨⟨⟨⟨h1, h2⟩, h2'⟩, _⟩, _⟩, h5⟩ := h
      obtain ⟨_, t2, t3, t4, t5⟩ := tagF_ok k (by omega)
      rw [if_neg t2]
      unfold filtT
      dsimp only
      rw [if_neg t3, if_neg t4, t5, if_pos (by omega)]
      rw [filsIt_map] at hl ht ⊢
      dsimp only at hl
      rw [inn_back (v := ks) r ?_ hl ?_, h1, h2, h2']
      · intro x hx
        obtain ⟨g, hg, rfl⟩ := List.mem_map.1 hx
        exact fil_tag g ⟨_, oneL_mem h5 g hg⟩
      · refine repA_back (filtP_eats n) _ ks (fun g hg q => IH g (d + 1) (by omega) (oneL_mem h5 g hg) ?_ q)
        have := body_mem (List.mem_map_of_mem (f := filIt) hg)
        omega
    · rw [if_neg h0, if_neg h3, if_neg h4, if_neg h7] at h; cases h
end Go.Ms
set_option linter.unusedVariables false
namespace Go.Ms
open Go.Vk
open Go.Fi (Fil)
def renIt (r : Req) : List It := [textIt r.dn, textIt r.rdn, (1, boolB (!r.keep))] ++ (if r.above = true then [(128, r.up)] else [])
def opIt (r : Req) : It :=
  if r.kind = 0 then (96, bodyB [(2, Ber.intB 3), textIt r.dn, (128, r.pass)])
  else if r.kind = 3 then (99, bodyB [textIt r.dn, (10, Ber.intB r.scope), (10, Ber.intB 0), (2, Ber.intB r.limit), (2, Ber.intB 0), (1, boolB false), filIt r.fil, textsIt 48 r.want])
  else if r.kind = 6 then (102, bodyB [textIt r.dn, modsIt r.mods])
  else if r.kind = 8 then (104, bodyB [textIt r.dn, attrsIt r.attrs])
  else if r.kind = 10 then (74, r.dn)
  else if r.kind = 12 then (108, bodyB (renIt r))
  else if r.kind = 14 then (110, bodyB [textIt r.dn, (48, bodyB [textIt r.avaT, textIt r.avaV])])
  else if r.kind = 16 then (80, Ber.intB r.which)
  else (66, [])
theorem opB_it (r : Req) : opB r = itB (opIt r) := by
  unfold opB opIt
  split
  · exact tagB_it 96 [(2, Ber.intB 3), textIt r.dn, (128, r.pass)]
  split
  · rw [filB_it, textsB_it]; exact tagB_it 99 [textIt r.dn, (10, Ber.intB r.scope), (10, Ber.intB 0), (2, Ber.intB r.limit), (2, Ber.intB 0), (1, boolB false), filIt r.fil, textsIt 48 r.want]
  split
  · rw [modsB_it]; exact tagB_it 102 [textIt r.dn, modsIt r.mods]
  split
  · rw [attrsB_it]; exact tagB_it 104 [textIt r.dn, attrsIt r.attrs]
  split
  · rfl
  split
  · have e : renB r = (renIt r).map itB := by unfold renB renIt; split <;> rfl
    rw [e, tagB_it]
  split
  · rw [show Ber.tagB 48 [textB r.avaT, textB r.avaV] = itB (48, bodyB [textIt r.avaT, textIt r.avaV]) from tagB_it 48 [textIt r.avaT, textIt r.avaV]]
    exact tagB_it 110 [textIt r.dn, (48, bodyB [textIt r.avaT, textIt r.avaV])]
  split
  · rfl
  · exact tagB_flat 66 []
theorem reqB_it (r : Req) : reqB r = itB (48, bodyB [(2, Ber.intB r.num), opIt r]) := by
  unfold reqB
  rw [opB_it]
  exact tagB_it 48 [(2, Ber.intB r.num), opIt r]
theorem tags_ok {l : List It} (ts : List UInt8) (h : l.map (fun x => x.1) = ts) (h2 : ts.all (fun t => decide (Ber.TagOk t)) = true) : ∀ x ∈ l, Ber.TagOk x.1 := fun x hx => by
  have : x.1 ∈ ts := by rw [← h]; exact List.mem_map_of_mem (f := fun x : It => x.1) hx
  exact of_decide_eq_true (List.all_eq_true.1 h2 _ this)
theorem truth_back (b : Bool) (r : List It) : truthI ((1, boolB b) :: r) false = (b, r, false) := by
  unfold truthI
  rw [take_it]
  cases b <;> rfl
theorem numB_k {n m : Int} (h : numB n m = true) (hm : 0 ≤ m) : okK n ∧ 0 ≤ n ∧ n ≤ 2147483647 := by
  unfold numB at h
  simp only [Bool.and_eq_true, decide_eq_true_eq] at h
  unfold okK
  omega
set_option maxHeartbeats 1000000 in
theorem op_back {r : Req} (hs : soundB r = true) (hl : (opIt r).2.length < 65536) (q : List It) : opP (opIt r :: q) false = ({ r with num := 0 }, q, false) := by
  unfold soundB at hs
  simp only [Bool.and_eq_true, decide_eq_true_eq, Bool.or_eq_true, Bool.not_eq_true', decide_eq_false_iff_not] at hs
  obtain ⟨⟨⟨⟨⟨⟨⟨hk, hn⟩, hu⟩, ⟨⟨⟨h1, h2⟩, h3⟩, h4⟩⟩, h5⟩, h6⟩, h7⟩, h8⟩ := hs
  obtain ⟨num, kind, dn, pass, scope, limit, fil, want, mods, attrs, rdn, keep, above, up, avaT, avaV, which⟩ := r
  have k3 := (numB_k h3 (by decide)).1
  have k4 := (numB_k h4 (by decide)).1
  have ks : okK scope := by unfold okK; dsimp only at h1 h2; omega
  have k0 : okK 0 := okK0
  have kk : okK 3 := by unfold okK; omega
  dsimp only at hk hn h1 h2 h3 h4 h5 h6 h7 h8 k3 k4
  have hm : ∀ m ∈ mods, okK m.kind := fun m hm => by
    have := List.all_eq_true.1 h8.1 m hm
    unfold modOk at this
    simp only [Bool.and_eq_true, decide_eq_true_eq] at this
    unfold okK
    omega
  unfold isKindB isIntZ at hk
  simp only [List.any_cons, List.any_nil, Bool.or_false, Bool.or_eq_true, decide_eq_true_eq] at hk
  unfold unnR zR at hu
  unfold opIt at hl ⊢
  dsimp only at hu hl ⊢
  rcases hk with rfl | rfl | rfl | rfl | rfl | rfl | rfl | rfl | rfl
  · simp at hu
    obtain ⟨rfl, rfl, rfl, rfl, rfl, rfl, rfl, rfl, rfl, rfl, rfl, rfl, rfl, rfl⟩ := hu
    rw [if_pos rfl] at hl ⊢
    dsimp only at hl
    show innM true 96 (opKP 0) _ false = _
    refine inn_back q (tags_ok [2, 4, 128] rfl (by decide)) hl ?_
    show bindP _ false = _
    unfold bindP
    rw [num_back kk]
    dsimp only
    rw [show (decide ((3 : Int) ≠ 3) || false) = false from rfl, text_back]
    dsimp only
    rw [take_it]
    rfl
  · simp at hu
    obtain ⟨rfl, rfl, rfl, rfl, rfl, rfl, rfl, rfl, rfl, rfl, rfl, rfl, rfl, rfl, rfl⟩ := hu
    rfl
  · simp at hu
    obtain ⟨rfl, rfl, rfl, rfl, rfl, rfl, rfl, rfl, rfl, rfl, rfl⟩ := hu
    rw [if_neg (by decide), if_pos rfl] at hl ⊢
    dsimp only at hl
    have hf : Fi.isF fil = true := by rcases h5 with h5 | h5; exact absurd rfl h5; exact h5
    unfold Fi.isF at hf
    rw [Bool.and_eq_true] at hf
    have b1 := body_mem (x := filIt fil) (show filIt fil ∈ _ from by simp) |> fun (h : (filIt fil).2.length + 2 ≤ (bodyB [textIt dn, (10, Ber.intB scope), (10, Ber.intB 0), (2, Ber.intB limit), (2, Ber.intB 0), (1, boolB false), filIt fil, textsIt 48 want]).length) => h
    have b2 := body_mem (x := textsIt 48 want) (show textsIt 48 want ∈ _ from by simp) |> fun (h : (textsIt 48 want).2.length + 2 ≤ (bodyB [textIt dn, (10, Ber.intB scope), (10, Ber.intB 0), (2, Ber.intB limit), (2, Ber.intB 0), (1, boolB false), filIt fil, textsIt 48 want]).length) => h
    show innM true 99 (opKP 3) _ false = _
    refine inn_back q ?_ hl ?_
    · have ht := fil_tag fil ⟨_, hf.1⟩
      intro x hx
      simp only [List.mem_cons, List.not_mem_nil, or_false] at hx
      rcases hx with rfl | rfl | rfl | rfl | rfl | rfl | rfl | rfl
      · show Ber.TagOk 4; decide
      · show Ber.TagOk 10; decide
      · show Ber.TagOk 10; decide
      · show Ber.TagOk 2; decide
      · show Ber.TagOk 2; decide
      · show Ber.TagOk 1; decide
      · exact ht
      · show Ber.TagOk 48; decide
    show srchP _ false = _
    unfold srchP
    rw [text_back]
    dsimp only
    rw [num_back ks]
    dsimp only
    rw [num_back k0]
    dsimp only
    rw [num_back k3]
    dsimp only
    rw [num_back k0]
    dsimp only
    rw [truth_back]
    dsimp only
    rw [fil_back 16 fil 1 rfl hf.1 (by omega)]
    dsimp only
    rw [texts_back [] (by omega)]
    rfl
  · simp at hu
    obtain ⟨rfl, rfl, rfl, rfl, rfl, rfl, rfl, rfl, rfl, rfl, rfl, rfl, rfl, rfl⟩ := hu
    rw [if_neg (by decide), if_neg (by decide), if_pos rfl] at hl ⊢
    dsimp only at hl
    have b1 : (modsIt mods).2.length + 2 ≤ (bodyB [textIt dn, modsIt mods]).length := body_mem (by simp)
    show innM true 102 (opKP 6) _ false = _
    refine inn_back q (tags_ok [4, 48] rfl (by decide)) hl ?_
    show modfM true _ false = _
    unfold modfM
    rw [text_back]
    dsimp only
    rw [mods_back hm [] (by omega)]
    rfl
  · simp at hu
    obtain ⟨rfl, rfl, rfl, rfl, rfl, rfl, rfl, rfl, rfl, rfl, rfl, rfl, rfl, rfl⟩ := hu
    rw [if_neg (by decide), if_neg (by decide), if_neg (by decide), if_pos rfl] at hl ⊢
    dsimp only at hl
    have b1 : (attrsIt attrs).2.length + 2 ≤ (bodyB [textIt dn, attrsIt attrs]).length := body_mem (by simp)
    show innM true 104 (opKP 8) _ false = _
    refine inn_back q (tags_ok [4, 48] rfl (by decide)) hl ?_
    show addM true _ false = _
    unfold addM
    rw [text_back]
    dsimp only
    rw [attrs_back [] (by omega)]
    rfl
  · simp at hu
    obtain ⟨rfl, rfl, rfl, rfl, rfl, rfl, rfl, rfl, rfl, rfl, rfl, rfl, rfl, rfl, rfl⟩ := hu
    rfl
  · simp at hu
    obtain ⟨rfl, rfl, rfl, rfl, rfl, rfl, rfl, rfl, rfl, rfl, rfl⟩ := hu
    rw [if_neg (by decide), if_neg (by decide), if_neg (by decide), if_neg (by decide), if_neg (by decide), if_pos rfl] at hl ⊢
    dsimp only at hl
    show innM true 108 (opKP 12) _ false = _
    cases above with
    | true =>
      refine inn_back q (tags_ok [4, 4, 1, 128] rfl (by decide)) hl ?_
      show renI [textIt dn, textIt rdn, (1, boolB (!keep)), (128, up)] false = _
      unfold renI
      rw [text_back]
      dsimp only
      rw [text_back]
      dsimp only
      rw [truth_back]
      dsimp only
      rw [show isI [((128 : UInt8), up)] false 128 = true from by simp [isI]]
      unfold mayI
      rw [if_pos (by simp [isI]), take_it, Bool.not_not]
      rfl
    | false =>
      have hup : up = [] := by rcases h6 with h6 | h6; exact absurd h6 (by decide); exact h6
      subst hup
      refine inn_back q (tags_ok [4, 4, 1] rfl (by decide)) hl ?_
      show renI [textIt dn, textIt rdn, (1, boolB (!keep))] false = _
      unfold renI
      rw [text_back]
      dsimp only
      rw [text_back]
      dsimp only
      rw [truth_back]
      dsimp only
      rw [Bool.not_not]
      rfl
  · simp at hu
    obtain ⟨rfl, rfl, rfl, rfl, rfl, rfl, rfl, rfl, rfl, rfl, rfl, rfl, rfl⟩ := hu
    rw [if_neg (by decide), if_neg (by decide), if_neg (by decide), if_neg (by decide), if_neg (by decide), if_neg (by decide), if_pos rfl] at hl ⊢
    dsimp only at hl
    have b1 : ((48 : UInt8), bodyB [textIt avaT, textIt avaV]).2.length + 2 ≤ (bodyB [textIt dn, (48, bodyB [textIt avaT, textIt avaV])]).length := body_mem (by simp)
    dsimp only at b1
    show innM true 110 (opKP 14) _ false = _
    refine inn_back q (tags_ok [4, 48] rfl (by decide)) hl ?_
    show cmpM true _ false = _
    unfold cmpM
    rw [text_back]
    dsimp only
    rw [pair_back [] (by omega)]
    rfl
  · simp at hu
    obtain ⟨rfl, rfl, rfl, rfl, rfl, rfl, rfl, rfl, rfl, rfl, rfl, rfl, rfl, rfl⟩ := hu
    show (({ zR with kind := 16, which := (numI (((80 : UInt8), Ber.intB which) :: q) false 80).1 } : Req), (numI (((80 : UInt8), Ber.intB which) :: q) false 80).2) = _
    rw [num_back k4]
    rfl
theorem dec_reqB {r : Req} (h : isR r = true) : decP (reqB r) = (r, 0) := by
  have h0 := h
  unfold isR at h
  rw [Bool.and_eq_true, decide_eq_true_eq] at h
  obtain ⟨hs, hl⟩ := h
  rw [reqB_it] at hl
  have w0 := it_len (48, bodyB [(2, Ber.intB r.num), opIt r])
  have w1 : (opIt r).2.length + 2 ≤ (bodyB [(2, Ber.intB r.num), opIt r]).length := body_mem (by simp)
  dsimp only at w0
  have hn : okK r.num := by
    unfold soundB at hs
    simp only [Bool.and_eq_true] at hs
    exact (numB_k hs.1.1.1.1.1.1.2 (by decide)).1
  have e := Ber.back 48 (by decide) (bodyB [(2, Ber.intB r.num), opIt r]) [] (by omega)
  rw [List.append_nil] at e
  have e2 : Ber.nextB (reqB r) = ⟨48, bodyB [(2, Ber.intB r.num), opIt r], [], 0⟩ := by rw [reqB_it]; exact e
  have ht : ∀ x ∈ [((2 : UInt8), Ber.intB r.num), opIt r], Ber.TagOk x.1 := by
    intro x hx
    rcases List.mem_cons.1 hx with rfl | hx
    · show Ber.TagOk 2; decide
    · rw [List.mem_singleton.1 hx]
      unfold opIt
      split
      · show Ber.TagOk 96; decide
      split
      · show Ber.TagOk 99; decide
      split
      · show Ber.TagOk 102; decide
      split
      · show Ber.TagOk 104; decide
      split
      · show Ber.TagOk 74; decide
      split
      · show Ber.TagOk 108; decide
      split
      · show Ber.TagOk 110; decide
      split
      · show Ber.TagOk 80; decide
      · show Ber.TagOk 66; decide
  obtain ⟨a1, a2⟩ := body_all ht (by omega)
  have er : reqP (bodyB [(2, Ber.intB r.num), opIt r]) = (r, [], false) := by
    unfold reqP
    rw [a1, a2, num_back hn]
    dsimp only
    rw [op_back hs (by omega) []]
    rfl
  unfold decP
  rw [e2]
  dsimp only
  rw [er]
  dsimp only
  rw [h0]
  rfl
end Go.Ms
set_option linter.unusedVariables false
namespace Go.Ms
open Go.Vk
open Go.Fi (Fil)
def wgS (s : List UInt8) : Nat := s.length + 3
def wgt (l : List (List UInt8)) : Nat := sm wgS (l.take 1000)
theorem wgS_le (s : List UInt8) : wgS s ≤ wV s := by unfold wgS wV; omega
theorem sm_le {α : Type} {f g : α → Nat} (h : ∀ a, f a ≤ g a) : ∀ l : List α, sm f l ≤ sm g l
  | [] => Nat.le_refl _
  | a :: r => by
    have h1 := h a
    have h2 := sm_le h r
    unfold sm at *
    simp only [List.map_cons, List.sum_cons]; omega
theorem sm_mul {α : Type} {f g : α → Nat} {c : Nat} (h : ∀ a, f a ≤ c * g a) : ∀ l : List α, sm f l ≤ c * sm g l
  | [] => by simp [sm]
  | a :: r => by
    have h1 := h a
    have h2 := sm_mul h r
    unfold sm at *
    simp only [List.map_cons, List.sum_cons]
    rw [Nat.mul_add]; omega
theorem sm_cons {α : Type} (f : α → Nat) (a : α) (l : List α) : sm f (a :: l) = f a + sm f l := by simp [sm]
theorem wgt_le (l : List (List UInt8)) : wgt l ≤ sm wV l := Nat.le_trans (sm_take _ _ _) (sm_le wgS_le l)
/-- Where the weight is small, all is weighed. -/
theorem wgt_all {l : List (List UInt8)} (h : wgt l < 3000) : wgt l = sm wgS l := by
  unfold wgt
  rw [List.take_of_length_le]
  have h1 := sm_len (f := wgS) (fun a => by unfold wgS; omega) (l.take 1000)
  have h2 : 3 * (l.take 1000).length ≤ sm wgS (l.take 1000) := by
    generalize l.take 1000 = m
    induction m with
    | nil => simp
    | cons a r ih => rw [sm_cons, List.length_cons]; unfold wgS at *; omega
  unfold wgt at h
  rw [List.length_take] at h2
  omega
theorem wgt_wV {l : List (List UInt8)} (h : wgt l < 3000) : sm wV l ≤ 4 * wgt l := by
  rw [wgt_all h]
  exact sm_mul (fun a => by unfold wV wgS; omega) l
mutual
/-- How much is left behind a filter. -/
def hvF : Fil → Int → Int
  | .mk _ t v s ks, n => hvFL ks (n - 9 - (t.length : Int) - (v.length : Int) - (wgt s : Int))
def hvFL : List Fil → Int → Int
  | [], n => n
  | f :: r, n => if 0 ≤ n then hvFL r (hvF f n) else n
end
theorem hvF_mk (k : Int) (t v : List UInt8) (s : List (List UInt8)) (ks : List Fil) (n : Int) : hvF (.mk k t v s ks) n = hvFL ks (n - 9 - (t.length : Int) - (v.length : Int) - (wgt s : Int)) := by conv => lhs; unfold hvF
theorem hvFL_cons (f : Fil) (r : List Fil) (n : Int) : hvFL (f :: r) n = if 0 ≤ n then hvFL r (hvF f n) else n := by conv => lhs; unfold hvFL
theorem hvFL_nil (n : Int) : hvFL [] n = n := by unfold hvFL; rfl
theorem hvFL_neg : ∀ (l : List Fil) {n : Int}, n < 0 → hvFL l n = n
  | [], _, _ => hvFL_nil _
  | s :: r, n, h => by rw [hvFL_cons, if_neg (by omega)]
theorem wFs_cons (f : Fil) (r : List Fil) : wFs (f :: r) = wF f + wFs r := by conv => lhs; unfold wFs
theorem wFs_nil : wFs [] = 0 := by unfold wFs; rfl
mutual
theorem hvF_rng : ∀ (f : Fil) (n : Int), hvF f n ≤ n ∧ n - (wF f : Int) ≤ hvF f n
  | .mk k t v s ks, n => by
    rw [hvF_mk]
    have h1 := hvFL_rng ks (n - 9 - (t.length : Int) - (v.length : Int) - (wgt s : Int))
    have h2 := wgt_le s
    have h3 : wF (.mk k t v s ks) = t.length + v.length + wVs s + 100 + wFs ks := by unfold wF; rfl
    have h4 : wVs s = sm wV s + 10 := rfl
    omega
theorem hvFL_rng : ∀ (l : List Fil) (n : Int), hvFL l n ≤ n ∧ n - (wFs l : Int) ≤ hvFL l n
  | [], n => by rw [hvFL_nil, wFs_nil]; omega
  | f :: r, n => by
    rw [hvFL_cons, wFs_cons]
    have h1 := hvF_rng f n
    have h2 := hvFL_rng r (hvF f n)
    split <;> omega
end
mutual
theorem hvF_bd : ∀ (f : Fil) (n : Int), n ≤ 1500 → 0 ≤ hvF f n → (wF f : Int) + 13 * hvF f n ≤ 13 * n
  | .mk k t v s ks, n, hn, h => by
    rw [hvF_mk] at h ⊢
    have h3 : wF (.mk k t v s ks) = t.length + v.length + wVs s + 100 + wFs ks := by unfold wF; rfl
    have h4 : wVs s = sm wV s + 10 := rfl
    by_cases hm : n - 9 - (t.length : Int) - (v.length : Int) - (wgt s : Int) < 0
    · rw [hvFL_neg ks hm] at h; omega
    · have h5 := wgt_wV (l := s) (by omega)
      have h6 := hvFL_bd ks _ (by omega) h
      omega
theorem hvFL_bd : ∀ (l : List Fil) (n : Int), n ≤ 1500 → 0 ≤ hvFL l n → (wFs l : Int) + 13 * hvFL l n ≤ 13 * n
  | [], n, _, h => by rw [hvFL_nil, wFs_nil]; omega
  | f :: r, n, hn, h => by
    rw [hvFL_cons] at h ⊢
    rw [wFs_cons]
    by_cases h0 : 0 ≤ n
    · rw [if_pos h0] at h ⊢
      have h1 := hvF_rng f n
      by_cases h2 : 0 ≤ hvF f n
      · have h3 := hvF_bd f n hn h2
        have h4 := hvFL_bd r _ (by omega) h
        omega
      · rw [hvFL_neg r (by omega)] at h; omega
    · rw [if_neg h0] at h; omega
end
theorem light_wF {f : Fil} (h : ¬ hvF f 1500 < 0) : wF f ≤ 19500 := by
  have := hvF_bd f 1500 (by omega) (by omega)
  omega
def hM (m : Mod) : Nat := 9 + m.typ.length + wgt m.vals
def hA (a : En.Attr) : Nat := 9 + a.typ.length + wgt a.vals
def hR (r : Req) : Nat := r.dn.length + r.pass.length + r.rdn.length + r.up.length + r.avaT.length + r.avaV.length + wgt r.want + sm hM (r.mods.take 200) + sm hA (r.attrs.take 200)
def heavyB (r : Req) : Bool := decide (2500 < (hR r : Int)) || decide (hvF r.fil 1500 < 0)
theorem hM_le (m : Mod) : hM m ≤ wM m := by
  have := wgt_le m.vals
  unfold hM wM wAt wVs; omega
theorem hA_le (m : En.Attr) : hA m ≤ wA m := by
  have := wgt_le m.vals
  unfold hA wA wAt wVs; omega
/-- What bounds a request, ahead of what is told of its weight. -/
structure Okq (r : Req) : Prop where
  num : okK r.num
  kind : okK r.kind
  scope : okK r.scope
  limit : okK r.limit
  which : okK r.which
  dn : r.dn.length ≤ 2000000
  pass : r.pass.length ≤ 2000000
  rdn : r.rdn.length ≤ 2000000
  up : r.up.length ≤ 2000000
  avaT : r.avaT.length ≤ 2000000
  avaV : r.avaV.length ≤ 2000000
  fil : wF r.fil ≤ 90000000
  want : sm wV r.want ≤ 90000000
  mods : sm wM r.mods ≤ 90000000
  attrs : sm wA r.attrs ≤ 90000000
  kinds : ∀ m ∈ r.mods, okK m.kind
theorem okr_of {r : Req} (h : Okq r) (hh : heavyB r = false) : Okr r := by
  have hf : wF r.fil ≤ 19500 := light_wF (by unfold heavyB at hh; simp only [Bool.or_eq_false_iff, decide_eq_false_iff_not] at hh; exact hh.2)
  exact ⟨h.num, h.kind, h.scope, h.limit, h.which, h.dn, h.pass, h.rdn, h.up, h.avaT, h.avaV, by omega, h.want, h.mods, h.attrs, h.kinds, Nat.le_trans (wt_wF _) (by omega)⟩
theorem take_full {α : Type} {l : List α} {i n : Nat} (h : i ≤ l.length) (h2 : ¬ (i < l.length ∧ i < n)) (h3 : i ≤ n) : l.take i = l.take n := by
  by_cases h4 : i = n
  · rw [h4]
  · rw [List.take_of_length_le (by omega), List.take_of_length_le (by omega)]
end Go.Ms
set_option maxRecDepth 8000
set_option linter.unusedVariables false
namespace Go.Proofs.YtkpghepeagafoaaGreat
open Go.Vk
attribute [local irreducible] HT HX RegS RegA RegM OpP OpC AltT
attribute [local irreducible] Ber.tagB Ber.lenB Ber.intB Ms.textB Ms.wV Ms.wF Ms.filB Ms.piecesB Ms.tagF Fi.isF Fi.wt Ms.wM Ms.wA Ms.textsB Ms.modsB Ms.attrsB Ms.opB Ms.wgS Ms.hM Ms.hA Ms.hvF Ms.hvFL
end Go.Proofs.YtkpghepeagafoaaGreat
set_option linter.unusedVariables false
namespace Go.Vk
/-- Opn, of readings no deeper than N. -/
structure OpnN (N : Nat) (P : Program) (t : TypeId) {α : Type} (f : α → List Ty) (ok : α → Prop) : Prop where
  size : ∀ a, (f a).length = P.cellsOf t
  go : ∀ {H : Type} (enc : TypeId × Value → H) (W : World) (fuel : Nat) (cs : List Value) (x : DataW H × List MemPlace), fuel ≤ N → DataW.trod enc P W 0 (fun _ => true) true fuel t cs = some x → (∀ n ∈ x.1.weights P t, n ≤ reachBytes) →
    ∃ a, ok a ∧ cs.length = (f a).length ∧ ∀ (j : Nat) (T : Ty) (u : Value), (f a)[j]? = some T → cs[j]? = some u → T.p (heapImm W) u ∧ u.oneCell' = true
section
variable {P : Program} {t : TypeId} {N : Nat}
theorem Opn.toN {α : Type} {f : α → List Ty} {ok : α → Prop} (h : Opn P t f ok) : OpnN N P t f ok := ⟨h.size, fun enc W fuel cs x _ hx hw => h.go enc W fuel cs x hx hw⟩
theorem OpnN.all {α : Type} {f : α → List Ty} {ok : α → Prop} (h : ∀ N, OpnN N P t f ok) : Opn P t f ok := ⟨(h 0).size, fun enc W fuel cs x hx hw => (h fuel).go enc W fuel cs x (Nat.le_refl _) hx hw⟩
theorem OpnN.map {α β : Type} {f : α → List Ty} {ok : α → Prop} (h : OpnN N P t f ok) (g : α → β) {f' : β → List Ty} {ok' : β → Prop} (hs : ∀ b, (f' b).length = P.cellsOf t) (hf : ∀ a, f' (g a) = f a) (hok : ∀ a, ok a → ok' (g a)) : OpnN N P t f' ok' where
  size := hs
  go := by
    intro H enc W fuel cs x hN hx hw
    obtain ⟨a, h1, h2, h3⟩ := h.go enc W fuel cs x hN hx hw
    refine ⟨g a, hok a h1, by rw [hf]; exact h2, by rw [hf]; exact h3⟩
theorem OpnN.slice {e : TypeId} {α : Type} {f : α → List Ty} {ok : α → Prop} (h : OpnN N P e f ok) (ht : P.underlying t = some (.slice e)) (hs : P.cellsOf t = 1) (hz : Nat.blt 0 (P.cellsOf e) = true) : OpnN (N + 1) P t (cL (P.cellsOf e) f) (fun l => l.length * P.bytesOf e ≤ reachBytes ∧ ∀ a ∈ l, ok a) where
  size := fun _ => hs.symm
  go := by
    intro H enc W fuel cs x hN hx hw
    have hz : 0 < P.cellsOf e := Nat.le_of_ble_eq_true hz
    rcases DataW.trod_slice ht hx with ⟨rfl, rfl⟩ | ⟨a, len, cap, elems, rest, n, rfl, rfl, rfl, _, hlc, hcm, hel, hget, _, _⟩
    · exact ⟨[], ⟨by simp, by simp⟩, rfl, one_at (TSlX.sl (nil_sl _ f _)) rfl⟩
    · have key : ∀ i : Fin len, ∃ y : α, ok y ∧ ∃ cs', W.cells? 0 (a.add (i.val * P.cellsOf e)) (P.cellsOf e) = some cs' ∧ ∀ (j : Nat) (T : Ty) (u : Value), (f y)[j]? = some T → cs'[j]? = some u → T.p (heapImm W) u ∧ u.oneCell' = true := by
        intro i
        have hi := hget i.val i.isLt
        have hlt : i.val < elems.length := by rw [hel]; exact i.isLt
        rw [List.getElem?_eq_getElem hlt, Option.bind_eq_some_iff] at hi
        obtain ⟨cs', h1, h2⟩ := hi
        obtain ⟨y, g1, g2, g3⟩ := h.go enc W n cs' _ (by omega) h2 (fun m hm => hw m (by
          simp only [DataW.weights, ht]
          refine List.mem_cons_of_mem _ (List.mem_append_left _ ?_)
          exact weightsAll_mem (List.mem_map.2 ⟨_, List.getElem_mem hlt, rfl⟩) m hm))
        exact ⟨y, g1, cs', h1, g3⟩
      let l : List α := List.ofFn fun i : Fin len => (key i).choose
      have hll : l.length = len := by simp [l]
      have hl : ∀ (i : Nat) (y : α), l[i]? = some y → ∃ hi : i < len, y = (key ⟨i, hi⟩).choose := by
        intro i y hy
        have hi : i < len := by have := (List.getElem?_eq_some_iff.1 hy).1; omega
        refine ⟨hi, ?_⟩
        simp only [l, List.getElem?_ofFn, hi, dite_true, Option.some.injEq] at hy
        exact hy.symm
      refine ⟨l, ⟨?_, ?_⟩, rfl, one_at ?_ rfl⟩
      · have := hw ((elems.length + rest.length) * P.bytesOf e) (by simp only [DataW.weights, ht, List.length_map]; exact List.mem_cons_self)
        have h2 : l.length * P.bytesOf e ≤ (elems.length + rest.length) * P.bytesOf e := Nat.mul_le_mul_right _ (by omega)
        omega
      · intro y hy
        obtain ⟨i, hi⟩ := List.mem_iff_getElem?.1 hy
        obtain ⟨hlt, rfl⟩ := hl i y hi
        exact (key ⟨i, hlt⟩).choose_spec.1
      · refine ⟨some a, cap, by rw [hll], by omega, hcm, (fun e => by cases e), (fun e => by cases e), fun ad e => ?_⟩
        cases e
        have hspot : 0 < len → a.spot = none := by
          intro hp
          obtain ⟨_, cs', h1, _⟩ := (key ⟨0, hp⟩).choose_spec
          have h2 := (World.cells?_some h1).2.2 0 hz
          have h3 : ∃ u, W.cell? ((a.add (0 * P.cellsOf e)).add 0) = some u := by
            have h4 := (World.cells?_some h1).2.1
            exact ⟨_, h2.trans (List.getElem?_eq_getElem (by omega))⟩
          obtain ⟨u, hu⟩ := h3
          have := World.cell?_spot hu
          simpa [Addr.add] using this
        refine ⟨fun hp => hspot (by omega), fun i y hy => ⟨h.size y, ?_⟩⟩
        obtain ⟨hlt, rfl⟩ := hl i y hy
        obtain ⟨_, cs', h1, h3⟩ := (key ⟨i, hlt⟩).choose_spec
        have hsp := hspot (by omega)
        intro j T hT
        have hj : j < P.cellsOf e := by have := (List.getElem?_eq_some_iff.1 hT).1; rw [h.size] at this; exact this
        have h5 := World.cells?_some h1
        have hcj : cs'[j]? = some cs'[j] := List.getElem?_eq_getElem (by omega)
        refine ⟨cs'[j], ?_, h3 j T _ hT hcj⟩
        have h6 := h5.2.2 j hj
        rw [hcj] at h6
        show W.cell? _ = _
        rw [← h6]
        obtain ⟨b, o, sp⟩ := a
        have hsp : sp = none := hsp
        subst hsp
        rw [add_none, add_none]
/-! ### structs -/
inductive OpnFN (N : Nat) (P : Program) : List Field → Nat → Nat → (α : Type) → (α → List Ty) → (α → Prop) → Prop
  | nil (off : Nat) : OpnFN N P [] off off Unit (fun _ => []) (fun _ => True)
  | cons {fd : Field} {fs : List Field} {off last : Nat} {A B : Type} {fa : A → List Ty} {oka : A → Prop} {fb : B → List Ty} {okb : B → Prop} (ho : fd.offset = off) (h : OpnN N P fd.type fa oka) (r : OpnFN N P fs (off + P.cellsOf fd.type) last B fb okb) : OpnFN N P (fd :: fs) off last (A × B) (fun p => fa p.1 ++ fb p.2) (fun p => oka p.1 ∧ okb p.2)
theorem OpnFN.size {fs : List Field} {off last : Nat} {α : Type} {f : α → List Ty} {ok : α → Prop} (h : OpnFN N P fs off last α f ok) : ∀ a, off + (f a).length = last := by
  induction h with
  | nil off => intro a; simp
  | cons ho h r ih =>
    rintro ⟨a, b⟩
    have h1 := h.size a
    have h2 := ih b
    simp only [List.length_append]; omega
theorem OpnFN.go {H : Type} {enc : TypeId × Value → H} {W : World} {fuel : Nat} {cs : List Value} {fs : List Field} {off last : Nat} {α : Type} {f : α → List Ty} {ok : α → Prop} (h : OpnFN N P fs off last α f ok) (hN : fuel ≤ N) (hlen : cs.length = last) :
    ∀ (xs : List (DataW H × List MemPlace)), xs.length = fs.length → (∀ (i : Nat) (fd : Field), fs[i]? = some fd → DataW.trod enc P W 0 (fun _ => true) true fuel fd.type ((cs.drop fd.offset).take (P.cellsOf fd.type)) = xs[i]?) →
      (∀ n ∈ DataW.weightsEach P (fs.map (·.type)) (xs.map (·.1)), n ≤ reachBytes) →
      ∃ a, ok a ∧ ∀ (j : Nat) (T : Ty) (u : Value), (f a)[j]? = some T → cs[off + j]? = some u → T.p (heapImm W) u ∧ u.oneCell' = true := by
  induction h with
  | nil off => intro xs _ _ _; exact ⟨(), trivial, fun j T u hj => by simp at hj⟩
  | cons ho h r ih =>
    rename_i fd fs off last A B fa oka fb okb
    intro xs hl hx hw
    cases xs with
    | nil => simp at hl
    | cons x xs =>
      have h0 := hx 0 fd rfl
      simp only [List.getElem?_cons_zero] at h0
      obtain ⟨a, a1, a2, a3⟩ := h.go enc W fuel _ x hN h0 (fun n hn => hw n (by simp only [List.map_cons, DataW.weightsEach, List.mem_append]; exact .inl hn))
      obtain ⟨b, b1, b2⟩ := ih hlen xs (by simpa using hl) (fun i fd' hi => by
        have := hx (i + 1) fd' (by simpa using hi)
        simpa using this) (fun n hn => hw n (by simp only [List.map_cons, DataW.weightsEach, List.mem_append]; exact .inr hn))
      refine ⟨(a, b), ⟨a1, b1⟩, fun j T u hj hu => ?_⟩
      dsimp only at hj
      have hsz := h.size a
      by_cases hlt : j < (fa a).length
      · rw [List.getElem?_append_left hlt] at hj
        refine a3 j T u hj ?_
        rw [List.getElem?_take, List.getElem?_drop, if_pos (by omega), ho]
        exact hu
      · rw [List.getElem?_append_right (by omega)] at hj
        refine b2 _ T u hj ?_
        rw [← hu]
        congr 1; omega
theorem OpnN.struct {fs : Array Field} {last : Nat} {α : Type} {f : α → List Ty} {ok : α → Prop} (ht : P.underlying t = some (.struct fs)) (hs : P.cellsOf t = last) (h : OpnFN N P fs.toList 0 last α f ok) : OpnN (N + 1) P t f ok where
  size := fun a => by have := h.size a; omega
  go := by
    intro H enc W fuel cs x hN hx hw
    obtain ⟨xs, n, rfl, rfl, hl, hxl, hf⟩ := DataW.trod_struct ht hx
    obtain ⟨a, a1, a2⟩ := h.go (by omega) (by omega) xs (by simpa using hxl) (fun i fd hi => hf i fd (by simpa using hi)) (fun n hn => hw n (by simp only [DataW.weights, ht]; exact hn))
    have hsz := h.size a
    exact ⟨a, a1, by omega, fun j T u hj hu => a2 j T u hj (by rw [Nat.zero_add]; exact hu)⟩
/-- Nothing reads at depth nought. -/
theorem OpnN.none {α : Type} {f : α → List Ty} {ok : α → Prop} {fs : Array Field} (hs : ∀ a, (f a).length = P.cellsOf t) (ht : P.underlying t = some (.struct fs)) : OpnN 0 P t f ok where
  size := hs
  go := by
    intro H enc W fuel cs x hN hx hw
    obtain ⟨xs, n, h, _⟩ := DataW.trod_struct ht hx
    omega
theorem OpnN.less {α : Type} {f : α → List Ty} {ok : α → Prop} {M : Nat} (h : OpnN M P t f ok) (hNM : N ≤ M) : OpnN N P t f ok := ⟨h.size, fun enc W fuel cs x hN hx hw => h.go enc W fuel cs x (Nat.le_trans hN hNM) hx hw⟩
end
end Go.Vk
set_option linter.unusedVariables false
namespace Go.Proofs.YtkpghepeagafoaaGreat
open Go.Vk
/-- Opn, of readings no deeper than N, with a measure that the bulk bounds. -/
structure OpnU (N : Nat) (P : Program) (t : TypeId) {α : Type} (f : α → List Ty) (ok : α → Prop) (m : α → Nat) : Prop where
  size : ∀ a, (f a).length = P.cellsOf t
  go : ∀ {H : Type} (enc : TypeId × Value → H) (W : World) (fuel : Nat) (cs : List Value) (x : DataW H × List MemPlace), fuel ≤ N → DataW.trod enc P W 0 (fun _ => true) true fuel t cs = some x → (∀ n ∈ x.1.weights P t, n ≤ reachBytes) →
    ∃ a, ok a ∧ m a ≤ Rows.uptoBulk x.1 ∧ cs.length = (f a).length ∧ ∀ (j : Nat) (T : Ty) (u : Value), (f a)[j]? = some T → cs[j]? = some u → T.p (heapImm W) u ∧ u.oneCell' = true
section
variable {P : Program} {t : TypeId} {N : Nat}
theorem bulk_pos {H : Type} (d : DataW H) : 1 ≤ Rows.uptoBulk d := by
  unfold Rows.uptoBulk
  split <;> omega
theorem bulk_sum {H : Type} {α : Type} {m : α → Nat} : ∀ (l : List α) (ds : List (DataW H)), l.length = ds.length → (∀ (i : Nat) (a : α) (d : DataW H), l[i]? = some a → ds[i]? = some d → m a ≤ Rows.uptoBulk d) → (l.map m).sum ≤ Rows.uptoBulkAll ds
  | [], ds, _, _ => by simp
  | a :: l, [], h, _ => by simp at h
  | a :: l, d :: ds, h, hm => by
    have h1 := hm 0 a d rfl rfl
    have h2 := bulk_sum l ds (by simpa using h) (fun i a d hi hd => hm (i + 1) a d (by simpa using hi) (by simpa using hd))
    rw [Rows.uptoBulkAll, List.map_cons, List.sum_cons]
    omega
theorem OpnU.str (ht : P.underlying t = some .string) (hs : P.cellsOf t = 1) : OpnU N P t cS (fun l => l.length ≤ reachBytes) (fun l => l.length + 1) where
  size := fun _ => hs.symm
  go := by
    intro H enc W fuel cs x _ h hw
    obtain ⟨s, rfl, rfl, hm⟩ := DataW.trod_string ht h
    refine ⟨s.data.toList, hw _ (by simp [DataW.weights]), by simp [Rows.uptoBulk], rfl, one_at ?_ rfl⟩
    show Value.string s = .string _
    simp
theorem OpnU.int {k : IntKind} (ht : P.underlying t = some (.int k)) (hs : P.cellsOf t = 1) : OpnU N P t (fun n : Int => [okI k n]) (fun n => (Lit.int k n).wf = true) (fun _ => 1) where
  size := fun _ => hs.symm
  go := by
    intro H enc W fuel cs x _ h hw
    obtain ⟨n, rfl, rfl, hm⟩ := DataW.trod_int ht h
    exact ⟨n, hm, bulk_pos _, rfl, one_at rfl rfl⟩
theorem OpnU.byte (ht : P.underlying t = some (.int .u8)) (hs : P.cellsOf t = 1) : OpnU N P t cB (fun _ => True) (fun _ => 1) where
  size := fun _ => hs.symm
  go := by
    intro H enc W fuel cs x _ h hw
    obtain ⟨n, rfl, rfl, hm⟩ := DataW.trod_int ht h
    exact ⟨b8 n, trivial, bulk_pos _, rfl, one_at (arg_u8 hm) rfl⟩
theorem OpnU.bool (ht : P.underlying t = some .bool) (hs : P.cellsOf t = 1) : OpnU N P t (fun b : Bool => [Is (.bool b)]) (fun _ => True) (fun _ => 1) where
  size := fun _ => hs.symm
  go := by
    intro H enc W fuel cs x _ h hw
    obtain ⟨b, rfl, rfl⟩ := DataW.trod_bool ht h
    exact ⟨b, trivial, bulk_pos _, rfl, one_at rfl rfl⟩
theorem OpnU.map {α β : Type} {f : α → List Ty} {ok : α → Prop} {m : α → Nat} (h : OpnU N P t f ok m) (g : α → β) {f' : β → List Ty} {ok' : β → Prop} {m' : β → Nat} (hs : ∀ b, (f' b).length = P.cellsOf t) (hf : ∀ a, f' (g a) = f a) (hok : ∀ a, ok a → ok' (g a)) (hm : ∀ a, m' (g a) ≤ m a) : OpnU N P t f' ok' m' where
  size := hs
  go := by
    intro H enc W fuel cs x hN hx hw
    obtain ⟨a, h1, h0, h2, h3⟩ := h.go enc W fuel cs x hN hx hw
    refine ⟨g a, hok a h1, Nat.le_trans (hm a) h0, by rw [hf]; exact h2, by rw [hf]; exact h3⟩
theorem OpnU.less {α : Type} {f : α → List Ty} {ok : α → Prop} {m : α → Nat} {M : Nat} (h : OpnU M P t f ok m) (hNM : N ≤ M) : OpnU N P t f ok m := ⟨h.size, fun enc W fuel cs x hN hx hw => h.go enc W fuel cs x (Nat.le_trans hN hNM) hx hw⟩
theorem OpnU.nought {α : Type} {f : α → List Ty} {ok : α → Prop} {m : α → Nat} {fs : Array Field} (hs : ∀ a, (f a).length = P.cellsOf t) (ht : P.underlying t = some (.struct fs)) : OpnU 0 P t f ok m where
  size := hs
  go := by
    intro H enc W fuel cs x hN hx hw
    obtain ⟨xs, n, h, _⟩ := DataW.trod_struct ht hx
    omega
theorem OpnU.slice {e : TypeId} {α : Type} {f : α → List Ty} {ok : α → Prop} {m : α → Nat} (h : OpnU N P e f ok m) (ht : P.underlying t = some (.slice e)) (hs : P.cellsOf t = 1) (hz : Nat.blt 0 (P.cellsOf e) = true) : OpnU (N + 1) P t (cL (P.cellsOf e) f) (fun l => l.length * P.bytesOf e ≤ reachBytes ∧ ∀ a ∈ l, ok a) (fun l => (l.map m).sum + 1) where
  size := fun _ => hs.symm
  go := by
    intro H enc W fuel cs x hN hx hw
    have hz : 0 < P.cellsOf e := Nat.le_of_ble_eq_true hz
    rcases DataW.trod_slice ht hx with ⟨rfl, rfl⟩ | ⟨a, len, cap, elems, rest, n, rfl, rfl, rfl, _, hlc, hcm, hel, hget, _, _⟩
    · exact ⟨[], ⟨by simp, by simp⟩, by simp [Rows.uptoBulk], rfl, one_at (TSlX.sl (nil_sl _ f _)) rfl⟩
    · have key : ∀ i : Fin len, ∃ y : α, ok y ∧ (∀ d, (elems.map (·.1))[i.val]? = some d → m y ≤ Rows.uptoBulk d) ∧ ∃ cs', W.cells? 0 (a.add (i.val * P.cellsOf e)) (P.cellsOf e) = some cs' ∧ ∀ (j : Nat) (T : Ty) (u : Value), (f y)[j]? = some T → cs'[j]? = some u → T.p (heapImm W) u ∧ u.oneCell' = true := by
        intro i
        have hi := hget i.val i.isLt
        have hlt : i.val < elems.length := by rw [hel]; exact i.isLt
        rw [List.getElem?_eq_getElem hlt, Option.bind_eq_some_iff] at hi
        obtain ⟨cs', h1, h2⟩ := hi
        obtain ⟨y, g1, g0, g2, g3⟩ := h.go enc W n cs' _ (by omega) h2 (fun m1 hm => hw m1 (by
          simp only [DataW.weights, ht]
          refine List.mem_cons_of_mem _ (List.mem_append_left _ ?_)
          exact weightsAll_mem (List.mem_map.2 ⟨_, List.getElem_mem hlt, rfl⟩) m1 hm))
        exact ⟨y, g1, fun d hd => by
          rw [List.getElem?_map, List.getElem?_eq_getElem hlt] at hd
          cases hd
          exact g0, cs', h1, g3⟩
      let l : List α := List.ofFn fun i : Fin len => (key i).choose
      have hll : l.length = len := by simp [l]
      have hl : ∀ (i : Nat) (y : α), l[i]? = some y → ∃ hi : i < len, y = (key ⟨i, hi⟩).choose := by
        intro i y hy
        have hi : i < len := by have := (List.getElem?_eq_some_iff.1 hy).1; omega
        refine ⟨hi, ?_⟩
        simp only [l, List.getElem?_ofFn, hi, dite_true, Option.some.injEq] at hy
        exact hy.symm
      refine ⟨l, ⟨?_, ?_⟩, ?_, rfl, one_at ?_ rfl⟩
      · have := hw ((elems.length + rest.length) * P.bytesOf e) (by simp only [DataW.weights, ht, List.length_map]; exact List.mem_cons_self)
        have h2 : l.length * P.bytesOf e ≤ (elems.length + rest.length) * P.bytesOf e := Nat.mul_le_mul_right _ (by omega)
        omega
      · intro y hy
        obtain ⟨i, hi⟩ := List.mem_iff_getElem?.1 hy
        obtain ⟨hlt, rfl⟩ := hl i y hi
        exact (key ⟨i, hlt⟩).choose_spec.1
      · have hb := bulk_sum (m := m) l (elems.map (·.1)) (by rw [hll, List.length_map, hel]) (fun i a d hi hd => by
          obtain ⟨hlt, rfl⟩ := hl i a hi
          exact (key ⟨i, hlt⟩).choose_spec.2.1 d hd)
        simp only [Rows.uptoBulk]; omega
      · refine ⟨some a, cap, by rw [hll], by omega, hcm, (fun e => by cases e), (fun e => by cases e), fun ad e => ?_⟩
        cases e
        have hspot : 0 < len → a.spot = none := by
          intro hp
          obtain ⟨_, _, cs', h1, _⟩ := (key ⟨0, hp⟩).choose_spec
          have h2 := (World.cells?_some h1).2.2 0 hz
          have h3 : ∃ u, W.cell? ((a.add (0 * P.cellsOf e)).add 0) = some u := by
            have h4 := (World.cells?_some h1).2.1
            exact ⟨_, h2.trans (List.getElem?_eq_getElem (by omega))⟩
          obtain ⟨u, hu⟩ := h3
          have := World.cell?_spot hu
          simpa [Addr.add] using this
        refine ⟨fun hp => hspot (by omega), fun i y hy => ⟨h.size y, ?_⟩⟩
        obtain ⟨hlt, rfl⟩ := hl i y hy
        obtain ⟨_, _, cs', h1, h3⟩ := (key ⟨i, hlt⟩).choose_spec
        have hsp := hspot (by omega)
        intro j T hT
        have hj : j < P.cellsOf e := by have := (List.getElem?_eq_some_iff.1 hT).1; rw [h.size] at this; exact this
        have h5 := World.cells?_some h1
        have hcj : cs'[j]? = some cs'[j] := List.getElem?_eq_getElem (by omega)
        refine ⟨cs'[j], ?_, h3 j T _ hT hcj⟩
        have h6 := h5.2.2 j hj
        rw [hcj] at h6
        show W.cell? _ = _
        rw [← h6]
        obtain ⟨b, o, sp⟩ := a
        have hsp : sp = none := hsp
        subst hsp
        rw [add_none, add_none]
/-! ### structs -/
inductive OpnFU (N : Nat) (P : Program) : List Field → Nat → Nat → (α : Type) → (α → List Ty) → (α → Prop) → (α → Nat) → Prop
  | nil (off : Nat) : OpnFU N P [] off off Unit (fun _ => []) (fun _ => True) (fun _ => 0)
  | cons {fd : Field} {fs : List Field} {off last : Nat} {A B : Type} {fa : A → List Ty} {oka : A → Prop} {fb : B → List Ty} {okb : B → Prop} {ma : A → Nat} {mb : B → Nat} (ho : fd.offset = off) (h : OpnU N P fd.type fa oka ma) (r : OpnFU N P fs (off + P.cellsOf fd.type) last B fb okb mb) : OpnFU N P (fd :: fs) off last (A × B) (fun p => fa p.1 ++ fb p.2) (fun p => oka p.1 ∧ okb p.2) (fun p => ma p.1 + mb p.2)
theorem OpnFU.size {fs : List Field} {off last : Nat} {α : Type} {f : α → List Ty} {ok : α → Prop} {m : α → Nat} (h : OpnFU N P fs off last α f ok m) : ∀ a, off + (f a).length = last := by
  induction h with
  | nil off => intro a; simp
  | cons ho h r ih =>
    rintro ⟨a, b⟩
    have h1 := h.size a
    have h2 := ih b
    simp only [List.length_append]; omega
theorem OpnFU.go {H : Type} {enc : TypeId × Value → H} {W : World} {fuel : Nat} {cs : List Value} {fs : List Field} {off last : Nat} {α : Type} {f : α → List Ty} {ok : α → Prop} {m : α → Nat} (h : OpnFU N P fs off last α f ok m) (hN : fuel ≤ N) (hlen : cs.length = last) :
    ∀ (xs : List (DataW H × List MemPlace)), xs.length = fs.length → (∀ (i : Nat) (fd : Field), fs[i]? = some fd → DataW.trod enc P W 0 (fun _ => true) true fuel fd.type ((cs.drop fd.offset).take (P.cellsOf fd.type)) = xs[i]?) →
      (∀ n ∈ DataW.weightsEach P (fs.map (·.type)) (xs.map (·.1)), n ≤ reachBytes) →
      ∃ a, ok a ∧ m a ≤ Rows.uptoBulkAll (xs.map (·.1)) ∧ ∀ (j : Nat) (T : Ty) (u : Value), (f a)[j]? = some T → cs[off + j]? = some u → T.p (heapImm W) u ∧ u.oneCell' = true := by
  induction h with
  | nil off => intro xs _ _ _; exact ⟨(), trivial, Nat.zero_le _, fun j T u hj => by simp at hj⟩
  | cons ho h r ih =>
    rename_i fd fs off last A B fa oka fb okb ma mb
    intro xs hl hx hw
    cases xs with
    | nil => simp at hl
    | cons x xs =>
      have h0 := hx 0 fd rfl
      simp only [List.getElem?_cons_zero] at h0
      obtain ⟨a, a1, a0, a2, a3⟩ := h.go enc W fuel _ x hN h0 (fun n hn => hw n (by simp only [List.map_cons, DataW.weightsEach, List.mem_append]; exact .inl hn))
      obtain ⟨b, b1, b0, b2⟩ := ih hlen xs (by simpa using hl) (fun i fd' hi => by
        have := hx (i + 1) fd' (by simpa using hi)
        simpa using this) (fun n hn => hw n (by simp only [List.map_cons, DataW.weightsEach, List.mem_append]; exact .inr hn))
      refine ⟨(a, b), ⟨a1, b1⟩, by simp only [List.map_cons, Rows.uptoBulkAll]; omega, fun j T u hj hu => ?_⟩
      dsimp only at hj
      have hsz := h.size a
      by_cases hlt : j < (fa a).length
      · rw [List.getElem?_append_left hlt] at hj
        refine a3 j T u hj ?_
        rw [List.getElem?_take, List.getElem?_drop, if_pos (by omega), ho]
        exact hu
      · rw [List.getElem?_append_right (by omega)] at hj
        refine b2 _ T u hj ?_
        rw [← hu]
        congr 1; omega
theorem OpnU.struct {fs : Array Field} {last : Nat} {α : Type} {f : α → List Ty} {ok : α → Prop} {m : α → Nat} (ht : P.underlying t = some (.struct fs)) (hs : P.cellsOf t = last) (h : OpnFU N P fs.toList 0 last α f ok m) : OpnU (N + 1) P t f ok (fun a => m a + 1) where
  size := fun a => by have := h.size a; omega
  go := by
    intro H enc W fuel cs x hN hx hw
    obtain ⟨xs, n, rfl, rfl, hl, hxl, hf⟩ := DataW.trod_struct ht hx
    obtain ⟨a, a1, a0, a2⟩ := h.go (by omega) (by omega) xs (by simpa using hxl) (fun i fd hi => hf i fd (by simpa using hi)) (fun n hn => hw n (by simp only [DataW.weights, ht]; exact hn))
    have hsz := h.size a
    exact ⟨a, a1, by simp only [Rows.uptoBulk]; omega, by omega, fun j T u hj hu => a2 j T u hj (by rw [Nat.zero_add]; exact hu)⟩
/-! ### arguments -/
section
variable {H : Type} {enc : TypeId × Value → H} {W : World} {v : Value} {d : DataW H} {ps : List MemPlace} {α : Type}
theorem OpnU.one {T : α → Ty} {ok : α → Prop} {m : α → Nat} (h : ∀ N, OpnU N P t (fun a => [T a]) ok m) (hc : v.cells = #[v]) (hd : DataW.Trod enc P W 0 (fun _ => true) true t v d ps) (hw : ∀ n ∈ d.weights P t, n ≤ reachBytes) : ∃ a, (ok a ∧ m a ≤ Rows.uptoBulk d) ∧ (T a).p (heapImm W) v := by
  obtain ⟨fuel, hf⟩ := hd
  obtain ⟨a, h1, h0, h2, h3⟩ := (h fuel).go enc W fuel _ _ (Nat.le_refl _) hf hw
  rw [hc] at h3
  exact ⟨a, ⟨h1, h0⟩, (h3 0 (T a) v rfl rfl).1⟩
theorem OpnU.sl {e : TypeId} {sz : Nat} {f : α → List Ty} {ok : List α → Prop} {m : List α → Nat} {r : Reach} {b0 : Nat} (h : ∀ N, OpnU N P t (cL sz f) ok m) (ht : P.underlying t = some (.slice e)) (hval : Value.okWide P W r b0 t v) (hd : DataW.Trod enc P W 0 (fun _ => true) true t v d ps) (hw : ∀ n ∈ d.weights P t, n ≤ reachBytes) : ∃ l, (ok l ∧ m l ≤ Rows.uptoBulk d) ∧ (TSl sz f l).p (heapImm W) v := by
  obtain ⟨a, len, cap, rfl⟩ := WideShapes.okWide_slice ht hval
  exact OpnU.one (T := fun l => TSl sz f l) h rfl hd hw
theorem OpnU.st {ok : List UInt8 → Prop} {m : List UInt8 → Nat} {r : Reach} {b0 : Nat} (h : ∀ N, OpnU N P t cS ok m) (ht : P.underlying t = some .string) (hval : Value.okWide P W r b0 t v) (hd : DataW.Trod enc P W 0 (fun _ => true) true t v d ps) (hw : ∀ n ∈ d.weights P t, n ≤ reachBytes) : ∃ l, (ok l ∧ m l ≤ Rows.uptoBulk d) ∧ (Is (Vk.str l)).p (heapImm W) v := by
  obtain ⟨s, rfl⟩ := WideShapes.okWide_string ht hval
  exact OpnU.one (T := fun l => Is (Vk.str l)) h rfl hd hw
theorem OpnU.ag {fs : Array Field} {f : α → List Ty} {ok : α → Prop} {m : α → Nat} {r : Reach} {b0 : Nat} (h : ∀ N, OpnU N P t f ok m) (ht : P.underlying t = some (.struct fs)) (hval : Value.okWide P W r b0 t v) (hd : DataW.Trod enc P W 0 (fun _ => true) true t v d ps) (hw : ∀ n ∈ d.weights P t, n ≤ reachBytes) : ∃ a, (ok a ∧ m a ≤ Rows.uptoBulk d) ∧ (TAgg (f a)).p (heapImm W) v := by
  obtain ⟨cs, rfl, hcs⟩ := WideShapes.okWide_struct ht hval
  obtain ⟨fuel, hf⟩ := hd
  obtain ⟨a, h1, h0, h2, h3⟩ := (h fuel).go enc W fuel _ _ (Nat.le_refl _) hf hw
  exact ⟨a, ⟨h1, h0⟩, cs.toList, by simp, by simpa [Value.cells] using h2, fun j T u hj hu => h3 j T u hj (by simpa [Value.cells] using hu)⟩
end
theorem bulk_at {H : Type} {ds : List (DataW H)} (h : Rows.uptoSmall H ds = true) {j : Nat} {d : DataW H} (hd : ds[j]? = some d) : Rows.uptoBulk d ≤ 1048576 := by
  have h0 : Rows.uptoBulkAll ds ≤ 1048576 := of_decide_eq_true h
  have key : ∀ (ds : List (DataW H)) (j : Nat), ds[j]? = some d → Rows.uptoBulk d ≤ Rows.uptoBulkAll ds := by
    intro ds
    induction ds with
    | nil => intro j hj; simp at hj
    | cons x r ih =>
      intro j hj
      rw [Rows.uptoBulkAll]
      cases j with
      | zero => simp at hj; subst hj; omega
      | succ j => have := ih j (by simpa using hj); omega
  exact Nat.le_trans (key ds j hd) h0
end
end Go.Proofs.YtkpghepeagafoaaGreat
