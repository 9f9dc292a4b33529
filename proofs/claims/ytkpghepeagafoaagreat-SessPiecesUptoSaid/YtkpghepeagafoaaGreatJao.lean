/-
  Filters: what is printed is parsed as it was; how many may be. Nothing here speaks of a program; no conditions.
  The contracts of Nodes, the program's and the document's.
  The contracts of Same of filters, the program's and the document's.
  How many bytes the first message has: the plain function, and the contracts of the program's and the document's Frame.
  The contracts of msg's small functions, and of all that the encoding of an unbind reaches.
  The contracts of what the encoding of an unbind reaches, at that request; and of MsgFrames.
  The contracts of slices.Grow and slices.Concat, of bytes.
  The laws BerCuts, BerBack, BerLong, for all arguments.
  The document's answers: length, Tag, Next; what each computes, for every input.
  The law BerTags, for all arguments.
-/
import Derived.Test.YtkpghepeagafoaaGreatJan
import Derived.Test.YtkpghepeagafoaaGreatRows
import Derived.Test.YtkpghepeagafoaaGreatJac
import Derived.Test.YtkpghepeagafoaaGreatJal
import Derived.Test.YtkpghepeagafoaaGreatJam
import Derived.Test.YtkpghepeagafoaaGreatJak
set_option linter.unusedSimpArgs false
set_option linter.unusedVariables false
set_option linter.unusedVariables false
namespace Go.Fi
open Go.Vk
open Go.Dn (typB typC halfV)
theorem hex_half : ∀ n : Fin 16, halfV (hexC n.val) = (n.val : Int) := by decide +kernel
theorem hexC_half {n : Nat} (h : n < 16) : halfV (hexC n) = (n : Int) := hex_half ⟨n, h⟩
theorem pVal_told (v : List UInt8) {c : UInt8} (hc : stopV c = true) (r : List UInt8) : pVal (told v ++ c :: r) = (v, c :: r, 0) := by
  induction v with
  | nil => exact pVal_stop hc
  | cons a v ih =>
    have e : told (a :: v) ++ c :: r = toldC a ++ (told v ++ c :: r) := by unfold told; rw [List.flatMap_cons, List.append_assoc]
    rw [e]
    unfold toldC
    by_cases hb : barC a = true
    · rw [if_pos hb]
      have hlt := a.toNat_lt
      have h1 := hexC_half (n := a.toNat / 16) (by omega)
      have h2 := hexC_half (n := a.toNat % 16) (by omega)
      have he : escR (hexC (a.toNat / 16) :: hexC (a.toNat % 16) :: (told v ++ c :: r)) = some (a, told v ++ c :: r) := by
        rw [escR_cons, if_pos ⟨by omega, by omega⟩, h1, h2]
        have : b8 (16 * ((a.toNat / 16 : Nat) : Int) + ((a.toNat % 16 : Nat) : Int)) = a := by
          rw [show 16 * ((a.toNat / 16 : Nat) : Int) + ((a.toNat % 16 : Nat) : Int) = (a.toNat : Int) by omega]
          exact b8_nat a
        rw [this]
      have := (esc_yes he).1
      show pVal (92 :: hexC (a.toNat / 16) :: hexC (a.toNat % 16) :: (told v ++ c :: r)) = _
      rw [this, ih]
    · rw [if_neg hb]
      have hb' : barC a = false := by simpa using hb
      unfold barC at hb'
      simp only [Bool.or_eq_false_iff, decide_eq_false_iff_not] at hb'
      obtain ⟨⟨⟨⟨⟨b1, b2⟩, b3⟩, b4⟩, b5⟩, b6⟩ := hb'
      show pVal (a :: (told v ++ c :: r)) = _
      rw [pVal_plain (by unfold stopV; simp [b3, b4, b5]) (fun e => by subst e; exact b1 (by decide)) b6, ih]
theorem pEq_join : ∀ (l : List (List UInt8)) (r : List UInt8), l ≠ [] → pEq (joinB (l.map told) ++ 41 :: r) = (l, 41 :: r, 0)
  | [], r, h => absurd rfl h
  | [x], r, _ => by
    unfold pEq
    show ((pVal (told x ++ 41 :: r)).1 :: _, _) = _
    have : joinB ([x].map told) = told x := rfl
    rw [this, pVal_told x rfl, pStars_no (by simp)]
  | x :: y :: l, r, _ => by
    have ih := pEq_join (y :: l) r (by simp)
    have e : joinB ((x :: y :: l).map told) ++ 41 :: r = told x ++ 42 :: (joinB ((y :: l).map told) ++ 41 :: r) := by
      show (told x ++ 42 :: joinB ((y :: l).map told)) ++ 41 :: r = _
      rw [List.append_assoc]; rfl
    unfold pEq at ih ⊢
    rw [e, pVal_told x rfl, pStars_star]
    rw [ih]
theorem kind_back {t : List UInt8} (h : typB t = true) {c : UInt8} (hc : noSign c = false) (r : List UInt8) : pKind (t ++ c :: r) = (t, c :: r, 0) := by
  have hall := typB_all h
  have e1 : (t ++ c :: r).takeWhile noSign = t ∧ (t ++ c :: r).dropWhile noSign = c :: r := by
    clear h
    induction t with
    | nil => exact ⟨List.takeWhile_cons_of_neg (by rw [hc]; simp), List.dropWhile_cons_of_neg (by rw [hc]; simp)⟩
    | cons a t ih =>
      rw [List.all_cons, Bool.and_eq_true] at hall
      obtain ⟨i1, i2⟩ := ih hall.2
      have ha := typ_sign a hall.1
      exact ⟨by rw [List.cons_append, List.takeWhile_cons_of_pos ha, i1], by rw [List.cons_append, List.dropWhile_cons_of_pos ha, i2]⟩
  unfold pKind
  rw [e1.1, e1.2, if_pos h]
theorem pItem_back {t : List UInt8} (h : typB t = true) {c : UInt8} (hc : noSign c = false) (r : List UInt8) : pItem (t ++ c :: r) = pRest t (c :: r) := by
  unfold pItem; rw [kind_back h hc]; rfl
theorem typB_head {t : List UInt8} (h : typB t = true) : ∃ a q, t = a :: q ∧ Dn.letB a = true := by
  obtain ⟨⟨h1, _, h3⟩, _⟩ := (Dn.typB_iff t).1 h
  cases t with
  | nil => simp at h1
  | cons a q => exact ⟨a, q, rfl, h3⟩
theorem body_item {t : List UInt8} (h : typB t = true) (pf : List UInt8 → Fil × St) (r : List UInt8) : pBody pf (t ++ r) = pItem (t ++ r) := by
  obtain ⟨a, q, rfl, ha⟩ := typB_head h
  have hl := (Dn.letB_iff a).1 ha
  have n : ∀ c : UInt8, (c.toNat : Int) < 65 ∨ 122 < (c.toNat : Int) → ¬ tk [c] (a :: q ++ r) = true := by
    intro c hc hh
    rw [List.cons_append, tk1_cons, decide_eq_true_eq] at hh
    subst hh; omega
  unfold pBody
  rw [if_neg (n 38 (by decide)), if_neg (n 124 (by decide)), if_neg (n 33 (by decide))]
theorem prL_len : ∀ l : List Fil, l.length ≤ (prL l).length
  | [] => Nat.le_refl _
  | f :: l => by
    have := prL_len l
    cases f with
    | mk k t v s ks =>
      rw [prL, prF]
      simp only [List.length_cons, List.length_append]
      omega
theorem prF_head (f : Fil) (r : List UInt8) : ∃ q, prF f ++ r = 40 :: q := by
  cases f with
  | mk k t v s ks => rw [prF]; exact ⟨_, rfl⟩
/-- The text of a filter that has no kids, behind its stroke. -/
theorem leaf_back {k : Int} {t v : List UInt8} {s : List (List UInt8)} {deep : Nat} (h : oneF (.mk k t v s []) deep = true) (hk : ¬ (k = 0 ∨ k = 1 ∨ k = 2)) (pf : List UInt8 → Fil × St) (r : List UInt8) : pBody pf (headT k t v s ++ 41 :: r) = (.mk k t v s [], 41 :: r, 0) := by
  unfold oneF at h
  rw [if_neg hk, Bool.and_eq_true] at h
  have h := h.2
  have k0 : k ≠ 0 := fun e => hk (by simp [e])
  have k1 : k ≠ 1 := fun e => hk (by simp [e])
  have k2 : k ≠ 2 := fun e => hk (by simp [e])
  unfold headT
  rw [if_neg k0, if_neg k1, if_neg k2]
  by_cases h3 : k = 3 ∨ k = 5 ∨ k = 6
  · rw [if_pos h3] at h
    simp only [Bool.and_eq_true, decide_eq_true_eq] at h
    obtain ⟨⟨⟨_, rfl⟩, ht⟩, hv⟩ := h
    rcases h3 with rfl | rfl | rfl
    · rw [if_pos rfl, List.append_assoc, body_item ht]
      show pItem (t ++ 61 :: (told v ++ 41 :: r)) = _
      rw [pItem_back ht rfl]
      have e := pEq_join [v] r (by simp)
      have hj : joinB ([v].map told) = told v := rfl
      rw [hj] at e
      have : pRest t (61 :: (told v ++ 41 :: r)) = (mkEq t (pEq (told v ++ 41 :: r)).1, (pEq (told v ++ 41 :: r)).2) := rfl
      rw [this, e]
      rfl
    · rw [if_neg (by decide), if_neg (by decide), if_pos rfl, List.append_assoc, body_item ht]
      show pItem (t ++ 62 :: (61 :: (told v ++ 41 :: r))) = _
      rw [pItem_back ht rfl]
      have : pRest t (62 :: 61 :: (told v ++ 41 :: r)) = (.mk 5 t (pVal (told v ++ 41 :: r)).1 [] [], (pVal (told v ++ 41 :: r)).2) := rfl
      rw [this, pVal_told v rfl]
    · rw [if_neg (by decide), if_neg (by decide), if_neg (by decide), if_pos rfl, List.append_assoc, body_item ht]
      show pItem (t ++ 60 :: (61 :: (told v ++ 41 :: r))) = _
      rw [pItem_back ht rfl]
      have : pRest t (60 :: 61 :: (told v ++ 41 :: r)) = (.mk 6 t (pVal (told v ++ 41 :: r)).1 [] [], (pVal (told v ++ 41 :: r)).2) := rfl
      rw [this, pVal_told v rfl]
  rw [if_neg h3] at h
  have k3 : k ≠ 3 := fun e => h3 (by simp [e])
  have k5 : k ≠ 5 := fun e => h3 (by simp [e])
  have k6 : k ≠ 6 := fun e => h3 (by simp [e])
  rw [if_neg k3]
  by_cases h4 : k = 4
  · subst h4
    rw [if_pos rfl] at h ⊢
    simp only [Bool.and_eq_true, decide_eq_true_eq] at h
    obtain ⟨⟨⟨_, rfl⟩, ht⟩, hs⟩ := h
    unfold subsB at hs
    simp only [Bool.and_eq_true, decide_eq_true_eq, List.any_eq_true, Bool.not_eq_true', decide_eq_false_iff_not] at hs
    obtain ⟨⟨⟨⟨s1, s2⟩, _⟩, _⟩, ⟨x, hx, hne⟩⟩ := hs
    have hsn : s ≠ [] := fun e => by rw [e] at s1; simp at s1
    rw [List.append_assoc, body_item ht]
    show pItem (t ++ 61 :: (joinB (s.map told) ++ 41 :: r)) = _
    rw [pItem_back ht rfl]
    have : pRest t (61 :: (joinB (s.map told) ++ 41 :: r)) = (mkEq t (pEq (joinB (s.map told) ++ 41 :: r)).1, (pEq (joinB (s.map told) ++ 41 :: r)).2) := rfl
    rw [this, pEq_join s r hsn]
    unfold mkEq
    rw [if_neg (c := s.length = 1) (by omega), if_neg]
    rintro ⟨l2, e0, e1⟩
    match s, l2 with
    | [a, b], _ =>
      simp only [List.getD_cons_zero, List.getD_cons_succ] at e0 e1
      subst e0; subst e1
      simp at hx
      exact hne hx
  · rw [if_neg h4] at h ⊢
    by_cases h7 : k = 7
    · subst h7
      rw [if_pos rfl] at h
      simp only [Bool.and_eq_true, decide_eq_true_eq] at h
      obtain ⟨⟨⟨_, rfl⟩, rfl⟩, ht⟩ := h
      rw [if_neg (by decide), if_neg (by decide), if_pos rfl, List.append_assoc, body_item ht]
      show pItem (t ++ 61 :: (42 :: 41 :: r)) = _
      rw [pItem_back ht rfl]
      have : pRest t (61 :: (42 :: 41 :: r)) = (mkEq t (pEq (42 :: 41 :: r)).1, (pEq (42 :: 41 :: r)).2) := rfl
      have e : pEq (42 :: 41 :: r) = ([[], []], 41 :: r, 0) := by
        unfold pEq
        rw [pVal_stop rfl, pStars_star, pVal_stop rfl, pStars_no (by simp)]
      rw [this, e]; rfl
    · rw [if_neg h7] at h; cases h
theorem tk_yes (c : UInt8) (r : List UInt8) : tk [c] (c :: r) = true := tk1.2 ⟨r, rfl⟩
mutual
theorem back : ∀ (f : Fil) (d : Nat) (r : List UInt8), d ≤ 16 → oneF f (17 - d) = true → pFilt d (prF f ++ r) = (f, r, 0)
  | .mk k t v s ks, 0, r, _, h => by
    unfold oneF at h
    simp at h
  | .mk k t v s ks, d + 1, r, hd, h => by
    have e : prF (.mk k t v s ks) ++ r = 40 :: (headT k t v s ++ (prL ks ++ 41 :: r)) := by
      rw [prF]; simp [List.append_assoc]
    unfold pFilt
    rw [e, if_pos (tk_yes 40 _)]
    show closeP (pBody (pFilt d) (headT k t v s ++ (prL ks ++ 41 :: r))) = _
    have key : pBody (pFilt d) (headT k t v s ++ (prL ks ++ 41 :: r)) = (.mk k t v s ks, 41 :: r, 0) := by
      by_cases hk : k = 0 ∨ k = 1 ∨ k = 2
      · unfold oneF at h
        rw [if_pos hk] at h
        simp only [Bool.and_eq_true, decide_eq_true_eq, Bool.or_eq_true] at h
        obtain ⟨_, ⟨⟨⟨⟨rfl, rfl⟩, rfl⟩, hne⟩, hnot⟩, hone⟩ := h
        have hl := backL ks d k [] r ((prL ks ++ 41 :: r).length + 1) (by omega) (by rwa [show 17 - (d + 1) + 1 = 17 - d by omega] at hone) hne hnot (by
          have := prL_len ks
          rw [List.length_append]; omega)
        have hp : pKids (pFilt d) k (prL ks ++ 41 :: r) = (.mk k [] [] [] ks, 41 :: r, 0) := by
          unfold pKids; rw [hl]; rfl
        rcases hk with rfl | rfl | rfl
        · exact hp
        · exact hp
        · exact hp
      · have hks : ks = [] := by
          unfold oneF at h
          rw [if_neg hk, Bool.and_eq_true] at h
          have h := h.2
          by_cases h3 : k = 3 ∨ k = 5 ∨ k = 6
          · rw [if_pos h3] at h; simp only [Bool.and_eq_true, decide_eq_true_eq] at h; exact h.1.1.1
          rw [if_neg h3] at h
          by_cases h4 : k = 4
          · rw [if_pos h4] at h; simp only [Bool.and_eq_true, decide_eq_true_eq] at h; exact h.1.1.1
          rw [if_neg h4] at h
          by_cases h7 : k = 7
          · rw [if_pos h7] at h; simp only [Bool.and_eq_true, decide_eq_true_eq] at h; exact h.1.1.1
          · rw [if_neg h7] at h; cases h
        subst hks
        exact leaf_back h hk (pFilt d) r
    rw [key]
    unfold closeP
    rw [if_pos rfl, if_pos (tk_yes 41 r)]
    rfl
theorem backL : ∀ (ks : List Fil) (d : Nat) (k : Int) (acc : List Fil) (r : List UInt8) (n : Nat), d ≤ 16 → oneL ks (17 - d) = true → ks ≠ [] → (k ≠ 2 ∨ ks.length ≤ 1) → ks.length ≤ n → kLoop (pFilt d) k n acc (prL ks ++ 41 :: r) = (acc ++ ks, 41 :: r, 0)
  | [], _, _, _, _, _, _, _, h, _, _ => absurd rfl h
  | f :: l, d, k, acc, r, n, hd, h, _, hk, hn => by
    unfold oneL at h
    rw [Bool.and_eq_true] at h
    have hf := back f d (prL l ++ 41 :: r) hd h.1
    have e : prL (f :: l) ++ 41 :: r = prF f ++ (prL l ++ 41 :: r) := by rw [prL, List.append_assoc]
    cases n with
    | zero => simp at hn
    | succ n =>
      unfold kLoop
      rw [e, hf]
      cases l with
      | nil =>
        rw [if_neg]
        · rfl
        · rintro ⟨_, _, h3⟩
          exact absurd (tk1.1 h3) (by rintro ⟨t, e⟩; simp [prL] at e)
      | cons g l =>
        obtain ⟨q, hq⟩ := prF_head g (prL l ++ 41 :: r)
        have e2 : prL (g :: l) ++ 41 :: r = 40 :: q := by rw [prL, List.append_assoc]; exact hq
        have hk2 : k ≠ 2 := hk.resolve_right (by simp)
        rw [if_pos ⟨rfl, hk2, by dsimp only; rw [e2]; exact tk_yes 40 q⟩]
        have := backL (g :: l) d k (acc ++ [f]) r n hd h.2 (by simp) (.inl hk2) (by simp at hn ⊢; omega)
        dsimp only
        rw [this]
        simp
end
/-- A filter that may be, printed and parsed, is it. -/
theorem parse_back {f : Fil} (h : isF f = true) : pParse (prF f) = (f, 0) := by
  have h1 : oneF f (17 - 16) = true := by unfold isF at h; rw [Bool.and_eq_true] at h; exact h.1
  have hb := back f 16 [] (by omega) h1
  rw [List.append_nil] at hb
  unfold pParse
  rw [hb]
  simp [h]
theorem parse_isF {s : List UInt8} {f : Fil} (h : pParse s = (f, 0)) : isF f = true := by
  unfold pParse at h
  split at h
  · rename_i hc
    simp only [Prod.mk.injEq] at h
    exact absurd h.2 hc
  split at h
  · simp at h
  split at h
  · rename_i hf
    simp only [Prod.mk.injEq] at h
    rw [← h.1]; exact hf
  · simp at h
/-! ### so many within one another -/
def leafN : Fil := .mk 3 [99, 110] [97] [] []
def nest : Nat → Fil
  | 0 => leafN
  | n + 1 => .mk 2 [] [] [] [nest n]
theorem nest_one : ∀ (n deep : Nat), n + deep ≤ 16 → oneF (nest n) deep = true
  | 0, deep, h => by
    unfold nest leafN oneF
    rw [decide_eq_true (by omega : deep ≤ 16)]
    rfl
  | n + 1, deep, h => by
    have := nest_one n (deep + 1) (by omega)
    unfold nest oneF
    simp [oneL, this]
    omega
theorem nest_nodes : ∀ n : Nat, nodes (nest n) = n + 1
  | 0 => by simp [nest, leafN, nodes, nodesL]
  | n + 1 => by simp [nest, nodes, nodesL, nest_nodes n]; omega
theorem nest_isF {n : Nat} (h : n < 16) : isF (nest n) = true := by
  unfold isF
  rw [nest_one n 1 (by omega), nest_nodes, decide_eq_true (by omega : n + 1 ≤ 64)]
  rfl
theorem nest_pr (n : Nat) : prF (nest (n + 1)) = [40, 33] ++ prF (nest n) ++ [41] := by
  show prF (.mk 2 [] [] [] [nest n]) = _
  rw [prF, prL, prL]
  simp [headT]
theorem nest_deep : ∀ (d n : Nat) (r : List UInt8), d ≤ n → (pFilt d (prF (nest n) ++ r)).2.2 = 10
  | 0, n, r, _ => by
    obtain ⟨q, hq⟩ := prF_head (nest n) r
    unfold pFilt
    rw [hq, if_pos (tk_yes 40 q)]
  | d + 1, 0, r, h => by omega
  | d + 1, n + 1, r, h => by
    have ih := nest_deep d n (41 :: r) (by omega)
    have e : prF (nest (n + 1)) ++ r = 40 :: 33 :: (prF (nest n) ++ 41 :: r) := by rw [nest_pr]; simp
    unfold pFilt
    rw [e, if_pos (tk_yes 40 _)]
    refine closeP_bad ?_ (by decide)
    show (pKids (pFilt d) 2 (prF (nest n) ++ 41 :: r)).2.2 = 10
    unfold pKids kLoop
    rw [if_neg (fun x => x.2.1 rfl)]
    exact ih
theorem parse_deep {n : Nat} (h : 16 ≤ n) : pParse (prF (nest n)) = (zeroF, 10) := by
  have := nest_deep 16 n [] h
  rw [List.append_nil] at this
  unfold pParse
  rw [this]
  simp
/-! ### counting -/
theorem mayH_mk (k : Int) (t v : List UInt8) (s : List (List UInt8)) (ks : List Fil) : mayH (.mk k t v s ks) = if k = 0 ∨ k = 1 ∨ k = 2 then decide (t = []) && decide (v = []) && decide (s = []) && (decide (ks ≠ []) && (decide (k ≠ 2) || decide (ks.length = 1)))
    else if k = 3 ∨ k = 5 ∨ k = 6 then typB t && okS v && decide (s = []) && decide (ks = [])
    else if k = 4 then typB t && decide (v = []) && subsB s && decide (ks = [])
    else if k = 7 then typB t && decide (v = []) && decide (s = []) && decide (ks = [])
    else false := rfl
mutual
theorem may_one : ∀ (f : Fil) (deep : Nat) (left : Int), 0 ≤ left → (mayF f deep left).1 = (oneF f (deep + 1) && decide ((nodes f : Int) ≤ left)) ∧ ((mayF f deep left).1 = true → (mayF f deep left).2 = left - nodes f)
  | .mk k t v s ks, deep, left, hl => by
    have hn : 1 ≤ nodes (.mk k t v s ks) := by rw [nodes]; omega
    unfold mayF
    by_cases h0 : left - 1 < 0 ∨ 16 ≤ deep
    · rw [if_pos h0]
      refine ⟨?_, fun h => by cases h⟩
      rcases h0 with h0 | h0
      · rw [decide_eq_false (by omega : ¬ ((nodes (.mk k t v s ks) : Int) ≤ left))]; simp
      · have : oneF (.mk k t v s ks) (deep + 1) = false := by
          unfold oneF; rw [decide_eq_false (by omega : ¬ deep + 1 ≤ 16)]; rfl
        rw [this]; rfl
    rw [if_neg h0]
    obtain ⟨i1, i2⟩ := mayL_one ks (deep + 1) (left - 1) (by omega)
    have hone : oneF (.mk k t v s ks) (deep + 1) = (mayH (.mk k t v s ks) && oneL ks (deep + 1 + 1)) := by
      unfold oneF
      rw [mayH_mk, decide_eq_true (by omega : deep + 1 ≤ 16), Bool.true_and]
      by_cases hk : k = 0 ∨ k = 1 ∨ k = 2
      · rw [if_pos hk, if_pos hk]
        cases ks with
        | nil => simp
        | cons f l =>
          have : decide ((f :: l).length ≤ 1) = decide ((f :: l).length = 1) := by
            simp only [List.length_cons, decide_eq_decide]; omega
          rw [this]
          simp only [Bool.and_assoc]
      · rw [if_neg hk, if_neg hk]
        have hnil : ∀ b : Bool, (decide (ks = []) && b) = (decide (ks = []) && b && oneL ks (deep + 1 + 1)) := by
          intro b
          cases ks with
          | nil => simp [oneL]
          | cons f l => simp
        by_cases h3 : k = 3 ∨ k = 5 ∨ k = 6
        · rw [if_pos h3, if_pos h3, Bool.and_assoc, Bool.and_assoc, hnil, ← Bool.and_assoc]
          congr 1
          cases decide (ks = []) <;> cases decide (s = []) <;> cases typB t <;> cases okS v <;> rfl
        rw [if_neg h3, if_neg h3]
        by_cases h4 : k = 4
        · rw [if_pos h4, if_pos h4, Bool.and_assoc, Bool.and_assoc, hnil, ← Bool.and_assoc]
          congr 1
          cases decide (ks = []) <;> cases decide (v = []) <;> cases typB t <;> cases subsB s <;> rfl
        rw [if_neg h4, if_neg h4]
        by_cases h7 : k = 7
        · rw [if_pos h7, if_pos h7, Bool.and_assoc, Bool.and_assoc, hnil, ← Bool.and_assoc]
          congr 1
          cases decide (ks = []) <;> cases decide (v = []) <;> cases typB t <;> cases decide (s = []) <;> rfl
        · rw [if_neg h7, if_neg h7]; rfl
    rw [hone]
    have hnk : nodes (.mk k t v s ks) = 1 + nodesL ks := by rw [nodes]
    by_cases hh : mayH (.mk k t v s ks) = true
    · rw [if_pos hh, hh, Bool.true_and, i1, hnk]
      refine ⟨?_, fun h => ?_⟩
      · congr 1
        simp only [decide_eq_decide]; omega
      · rw [i2 (by rw [i1]; exact h)]; omega
    · rw [if_neg hh]
      have : mayH (.mk k t v s ks) = false := by simpa using hh
      rw [this]
      exact ⟨by simp, fun h => by cases h⟩
theorem mayL_one : ∀ (ks : List Fil) (deep : Nat) (left : Int), 0 ≤ left → (mayL ks deep left).1 = (oneL ks (deep + 1) && decide ((nodesL ks : Int) ≤ left)) ∧ ((mayL ks deep left).1 = true → (mayL ks deep left).2 = left - nodesL ks)
  | [], deep, left, hl => by
    unfold mayL oneL nodesL
    exact ⟨by simp; omega, fun _ => by simp⟩
  | f :: r, deep, left, hl => by
    obtain ⟨i1, i2⟩ := may_one f deep left hl
    have hn : nodesL (f :: r) = nodes f + nodesL r := by rw [nodesL]
    have ho : oneL (f :: r) (deep + 1) = (oneF f (deep + 1) && oneL r (deep + 1)) := by rw [oneL]
    unfold mayL
    rw [hn, ho]
    by_cases h : (mayF f deep left).1 = true
    · rw [if_pos h]
      have e := i2 h
      rw [i1, Bool.and_eq_true, decide_eq_true_eq] at h
      obtain ⟨j1, j2⟩ := mayL_one r deep (left - nodes f) (by omega)
      rw [e, j1, h.1, Bool.true_and]
      refine ⟨?_, fun hh => ?_⟩
      · congr 1
        simp only [decide_eq_decide]; omega
      · rw [j2 (by rw [j1]; exact hh)]; omega
    · rw [if_neg h]
      refine ⟨?_, fun hh => by cases hh⟩
      have hf : (mayF f deep left).1 = false := by simpa using h
      rw [i1, Bool.and_eq_false_iff, decide_eq_false_iff_not] at hf
      show false = _
      rcases hf with hf | hf
      · rw [hf]; rfl
      · rw [decide_eq_false (by omega : ¬ (((nodes f + nodesL r : Nat) : Int) ≤ left))]; simp
end
theorem may_isF (f : Fil) : (mayF f 0 64).1 = isF f := by
  rw [(may_one f 0 64 (by decide)).1]
  unfold isF
  congr 1
  simp only [decide_eq_decide]; omega
end Go.Fi
set_option linter.unusedVariables false
namespace Go.Fi
open Go.Vk
theorem nodesL_snoc {l : List Fil} {i : Nat} (h : i < l.length) : nodesL (l.take (i + 1)) = nodesL (l.take i) + nodes (l.getD i default) := by
  induction l generalizing i with
  | nil => simp at h
  | cons f r ih =>
    cases i with
    | zero => simp [nodesL]
    | succ i =>
      have := ih (i := i) (by simpa using h)
      simp only [List.take_succ_cons, nodesL, List.getD_cons_succ]
      omega
theorem nodesL_take (l : List Fil) (i : Nat) : nodesL (l.take i) ≤ nodesL l := by
  induction l generalizing i with
  | nil => simp
  | cons f r ih =>
    cases i with
    | zero => simp [nodesL]
    | succ i =>
      have := ih i
      simp only [List.take_succ_cons, nodesL]
      omega
theorem kid_lt : ∀ {l : List Fil} {f : Fil}, f ∈ l → nodes f ≤ nodesL l
  | [], f, h => by simp at h
  | g :: r, f, h => by
    rw [nodesL]
    rcases List.mem_cons.1 h with rfl | h
    · omega
    · have := kid_lt h; omega
theorem nodesL_len : ∀ l : List Fil, l.length ≤ nodesL l
  | [] => Nat.le_refl _
  | f :: r => by
    have := nodesL_len r
    rw [nodesL]
    cases f with
    | mk k t v s ks => rw [nodes]; simp only [List.length_cons]; omega
end Go.Fi
set_option maxRecDepth 8000
set_option linter.unusedVariables false
namespace Go.Proofs.YtkpghepeagafoaaGreat
open Go.Vk
attribute [local irreducible] HT HX RegS RegA RegM OpP OpC AltT
attribute [local irreducible] Fi.nodes Fi.nodesL
theorem rfNodesS (k : Int) (t v : List UInt8) (s : List (List UInt8)) (ks : List Fi.Fil) (hn : Fi.nodesL ks ≤ 1100000) (IH : ∀ f ∈ ks, CFn Tryz.prog 62 [TAgg (Fi.cF f)] (okI .i64 (Fi.nodes f : Int))) : CFn Tryz.prog 62 [TAgg (Fi.cF (.mk k t v s ks))] (okI .i64 ((1 + Fi.nodesL ks : Nat) : Int)) := by
  have hl := Fi.nodesL_len ks
  rw [Fi.cF_open]
  dsimp only [Fi.Fil.kind, Fi.Fil.typ, Fi.Fil.val, Fi.Fil.subs, Fi.Fil.kids]
  refine CallsC.of Tryz.call62 Tryz.func62 rfl Tryz.ntmps62 rfl fun w0 G0 S0 hs ho => ?_
  refine run ?_
  refine HT.loopX (σ := Nat) [1, 2] (fun i => [(3, okI .i64 ((1 + Fi.nodesL (ks.take i) : Nat) : Int)), (4, okI .i64 (i : Int))]) (fun _ => []) (fun i => i ≤ ks.length) (fun i => ks.length - i) 0 (Nat.zero_le _) (run trivial) (run ?_) ?_
  · unfold Fi.nodesL; rfl
  rintro i hi
  by_cases hlt : i < ks.length
  · have c1 := IH _ (En.getD_mem hlt)
    have h1 := Fi.nodesL_snoc hlt
    have h2 := Fi.nodesL_take ks (i + 1)
    clear IH
    refine run ?_
    intro _
    exact HX.roundX (i + 1) ⟨by omega, by omega⟩ rfl (run trivial) (run trivial)
  · rw [List.take_of_length_le (by omega)]
    clear IH
    exact run trivial
theorem rfNodes : ∀ (N : Nat) (f : Fi.Fil), Fi.nodes f ≤ N → Fi.nodes f ≤ 1100000 → CFn Tryz.prog 62 [TAgg (Fi.cF f)] (okI .i64 (Fi.nodes f : Int))
  | 0, .mk k t v s ks, h, _ => by unfold Fi.nodes at h; omega
  | N + 1, .mk k t v s ks, h, hw => by
    have e : Fi.nodes (.mk k t v s ks) = 1 + Fi.nodesL ks := by unfold Fi.nodes; rfl
    rw [e] at h hw ⊢
    exact rfNodesS k t v s ks (by omega) (fun f hf => rfNodes N f (by have := Fi.kid_lt hf; omega) (by have := Fi.kid_lt hf; omega))
end Go.Proofs.YtkpghepeagafoaaGreat
set_option linter.unusedVariables false
namespace Go.Fi
open Go.Vk
instance : DecidableEq Fil := fun a b => decidable_of_iff (sameF a b = true) (sameF_iff a b)
theorem fil_eq (k k' : Int) (t t' v v' : List UInt8) (s s' : List (List UInt8)) (ks ks' : List Fil) : decide (Fil.mk k t v s ks = Fil.mk k' t' v' s' ks') = (decide (k = k') && decide (t = t') && decide (v = v') && decide (s = s') && decide (ks = ks')) := by
  rw [Bool.eq_iff_iff]
  simp only [decide_eq_true_eq, Bool.and_eq_true, Fil.mk.injEq]
  constructor
  · rintro ⟨h1, h2, h3, h4, h5⟩; exact ⟨⟨⟨⟨h1, h2⟩, h3⟩, h4⟩, h5⟩
  · rintro ⟨⟨⟨⟨h1, h2⟩, h3⟩, h4⟩, h5⟩; exact ⟨h1, h2, h3, h4, h5⟩
theorem wtk : ∀ {l : List Fil} {f : Fil}, f ∈ l → wt f ≤ wtL l
  | [], f, h => by simp at h
  | g :: r, f, h => by
    rw [wtL]
    rcases List.mem_cons.1 h with rfl | h
    · omega
    · have := wtk h; omega
theorem wtl : ∀ l : List Fil, l.length ≤ wtL l
  | [] => Nat.le_refl _
  | f :: r => by
    have := wtl r
    rw [wtL]
    cases f with
    | mk k t v s ks => rw [wt]; simp only [List.length_cons]; omega
theorem sbl : ∀ l : List (List UInt8), l.length ≤ subsW l
  | [] => Nat.le_refl _
  | s :: r => by
    have := sbl r
    rw [subsW]; simp only [List.length_cons]; omega
end Go.Fi
set_option maxRecDepth 8000
set_option linter.unusedVariables false
namespace Go.Proofs.YtkpghepeagafoaaGreat
open Go.Vk
attribute [local irreducible] HT HX RegS RegA RegM OpP OpC AltT
attribute [local irreducible] Fi.nodes Fi.nodesL Fi.sameF
theorem txtEq16 (l m : List (List UInt8)) (hl : l.length ≤ 1152921504606846976) : CFn Tryz.prog 127 [TSl 1 Fi.cS l, TSl 1 Fi.cS m] (Is (.bool (decide (l = m)))) := by
  refine CallsC.of Tryz.call127 Tryz.func127 rfl Tryz.ntmps127 rfl fun w0 G0 S0 hs ho => ?_
  refine run ?_
  refine ⟨?_, ?_⟩
  · intro h
    exact (decide_eq_false (fun e => h (by rw [e]))).symm
  intro hc
  refine HT.loopX (σ := Nat) [0, 1, 12] (fun i => [(13, okI .i64 (i : Int))]) (fun _ => []) (fun i => i ≤ l.length ∧ l.take i = m.take i) (fun i => l.length - i) 0 ⟨Nat.zero_le _, rfl⟩ (run trivial) (run trivial) ?_
  rintro i ⟨hi, he⟩
  have hc' : l.length = m.length := by
    have : (l.length : Int) = (m.length : Int) := Decidable.not_not.1 hc
    omega
  refine run ?_
  and_intros
  all_goals intros
  · rename_i h1 h2
    exact (decide_eq_false (fun e => h2 (by rw [e]))).symm
  · rename_i h1 h2
    exact HX.roundX (i + 1) ⟨⟨by omega, En.take_ext (by omega) hc' he (Decidable.not_not.1 h2)⟩, by omega⟩ rfl (run trivial) (run trivial)
  · rename_i h1
    exact (decide_eq_true (En.take_all h1 hc' he)).symm
theorem filEq {f : FuncId} {Cs : List Ty} (l m : List Fi.Fil) (hl : l.length ≤ 1152921504606846976) (cf : ∀ a ∈ l, ∀ b, CFn Tryz.prog f ([TAgg (Fi.cF a), TAgg (Fi.cF b)] ++ Cs) (Is (.bool (decide (a = b))))) : CFn Tryz.prog 138 [TSl 5 Fi.cF l, TSl 5 Fi.cF m, TFn f Cs] (Is (.bool (decide (l = m)))) := by
  refine CallsC.of Tryz.call138 Tryz.func138 rfl Tryz.ntmps138 rfl fun w0 G0 S0 hs ho => ?_
  refine run ?_
  refine ⟨?_, ?_⟩
  · intro h
    exact (decide_eq_false (fun e => h (by rw [e]))).symm
  intro hc
  refine HT.loopX (σ := Nat) [1, 2, 15, 16] (fun i => [(17, okI .i64 (i : Int))]) (fun _ => []) (fun i => i ≤ l.length ∧ l.take i = m.take i) (fun i => l.length - i) 0 ⟨Nat.zero_le _, rfl⟩ (run trivial) (run trivial) ?_
  rintro i ⟨hi, he⟩
  have hc' : l.length = m.length := by
    have : (l.length : Int) = (m.length : Int) := Decidable.not_not.1 hc
    omega
  have cf' := fun (hlt : i < l.length) => cf (l.getD i default) (En.getD_mem hlt) (m.getD i default)
  clear cf
  refine run ?_
  refine ⟨fun _ _ h1 h2 => ?_, fun _ _ h1 h2 => ?_, fun h1 => ?_⟩
  · exact (decide_eq_false (fun e => h2 (by rw [e]))).symm
  · exact HX.roundX (i + 1) ⟨⟨by omega, En.take_ext (by omega) hc' he h2⟩, by omega⟩ rfl (run trivial) (run trivial)
  · exact (decide_eq_true (En.take_all h1 hc' he)).symm
theorem fpSameS (k k' : Int) (t t' v v' : List UInt8) (s s' : List (List UInt8)) (ks ks' : List Fi.Fil) (hs1 : s.length ≤ 1100000) (hk1 : ks.length ≤ 1100000) (IH : ∀ a ∈ ks, ∀ b, CFn Tryz.prog 126 [TAgg (Fi.cF a), TAgg (Fi.cF b)] (Is (.bool (decide (a = b))))) : CFn Tryz.prog 126 [TAgg (Fi.cF (.mk k t v s ks)), TAgg (Fi.cF (.mk k' t' v' s' ks'))] (Is (.bool (decide (Fi.Fil.mk k t v s ks = Fi.Fil.mk k' t' v' s' ks')))) := by
  have c1 := txtEq16 s s' (by omega)
  have c2 := filEq (f := 126) (Cs := []) ks ks' (by omega) IH
  clear IH
  rw [Fi.fil_eq, Fi.cF_open (.mk k t v s ks), Fi.cF_open (.mk k' t' v' s' ks')]
  dsimp only [Fi.Fil.kind, Fi.Fil.typ, Fi.Fil.val, Fi.Fil.subs, Fi.Fil.kids]
  refine CallsC.of Tryz.call126 Tryz.func126 rfl Tryz.ntmps126 rfl fun w0 G0 S0 hs ho => ?_
  exact run trivial
theorem fpSame : ∀ (N : Nat) (f : Fi.Fil), Fi.nodes f ≤ N → Fi.wt f ≤ 1100000 → ∀ b : Fi.Fil, CFn Tryz.prog 126 [TAgg (Fi.cF f), TAgg (Fi.cF b)] (Is (.bool (decide (f = b))))
  | 0, .mk k t v s ks, h, _, _ => by unfold Fi.nodes at h; omega
  | N + 1, .mk k t v s ks, h, hw, .mk k' t' v' s' ks' => by
    have e : Fi.nodes (.mk k t v s ks) = 1 + Fi.nodesL ks := by unfold Fi.nodes; rfl
    rw [e] at h
    rw [Fi.wt] at hw
    have w1 := Fi.wtl ks
    have w2 := Fi.sbl s
    exact fpSameS k k' t t' v v' s s' ks ks' (by omega) (by omega) (fun a ha b => fpSame N a (by have := Fi.kid_lt ha; omega) (by have := Fi.wtk ha; omega) b)
end Go.Proofs.YtkpghepeagafoaaGreat
set_option linter.unusedVariables false
namespace Go.Ms
open Go.Vk
def frEnd (b : List UInt8) (at' n : Int) : Int × Int := if 65536 < at' + n then (0, 5) else if (b.length : Int) < at' + n then (0, 0) else (at' + n, 0)
def frLong (b : List UInt8) (k : Nat) : Int := Ber.be 0 ((b.take (2 + k)).drop 2)
def frameB (b : List UInt8) : Int × Int :=
  if b.length < 1 then (0, 0)
  else if (b.getD 0 0).toNat ≠ 48 then (0, 3)
  else if b.length < 2 then (0, 0)
  else if (b.getD 1 0).toNat < 128 then frEnd b 2 ((b.getD 1 0).toNat : Int)
  else if (b.getD 1 0).toNat = 128 ∨ 132 < (b.getD 1 0).toNat then (0, 3)
  else if b.length < 2 + ((b.getD 1 0).toNat - 128) then (0, 0)
  else frEnd b (2 + (((b.getD 1 0).toNat - 128 : Nat) : Int)) (frLong b ((b.getD 1 0).toNat - 128))
theorem frame_0 {b : List UInt8} (h : b.length < 1) : frameB b = (0, 0) := if_pos h
theorem frame_1 {b : List UInt8} (h : ¬ b.length < 1) (h1 : (b.getD 0 0).toNat ≠ 48) : frameB b = (0, 3) := by
  unfold frameB; rw [if_neg h, if_pos h1]
theorem frame_2 {b : List UInt8} (h : ¬ b.length < 1) (h1 : (b.getD 0 0).toNat = 48) (h2 : b.length < 2) : frameB b = (0, 0) := by
  unfold frameB; rw [if_neg h, if_neg (by omega), if_pos h2]
theorem frame_3 {b : List UInt8} (h1 : (b.getD 0 0).toNat = 48) (h2 : ¬ b.length < 2) (h3 : (b.getD 1 0).toNat < 128) : frameB b = frEnd b 2 ((b.getD 1 0).toNat : Int) := by
  unfold frameB; rw [if_neg (by omega), if_neg (by omega), if_neg h2, if_pos h3]
theorem frame_4 {b : List UInt8} (h1 : (b.getD 0 0).toNat = 48) (h2 : ¬ b.length < 2) (h3 : ¬ (b.getD 1 0).toNat < 128) (h4 : (b.getD 1 0).toNat = 128 ∨ 132 < (b.getD 1 0).toNat) : frameB b = (0, 3) := by
  unfold frameB; rw [if_neg (by omega), if_neg (by omega), if_neg h2, if_neg h3, if_pos h4]
theorem frame_5 {b : List UInt8} (h1 : (b.getD 0 0).toNat = 48) (h2 : ¬ b.length < 2) (h3 : ¬ (b.getD 1 0).toNat < 128) (h4 : ¬ ((b.getD 1 0).toNat = 128 ∨ 132 < (b.getD 1 0).toNat)) (h5 : b.length < 2 + ((b.getD 1 0).toNat - 128)) : frameB b = (0, 0) := by
  unfold frameB; rw [if_neg (by omega), if_neg (by omega), if_neg h2, if_neg h3, if_neg h4, if_pos h5]
theorem frame_6 {b : List UInt8} (h1 : (b.getD 0 0).toNat = 48) (h2 : ¬ b.length < 2) (h3 : ¬ (b.getD 1 0).toNat < 128) (h4 : ¬ ((b.getD 1 0).toNat = 128 ∨ 132 < (b.getD 1 0).toNat)) (h5 : ¬ b.length < 2 + ((b.getD 1 0).toNat - 128)) : frameB b = frEnd b (2 + (((b.getD 1 0).toNat - 128 : Nat) : Int)) (frLong b ((b.getD 1 0).toNat - 128)) := by
  unfold frameB; rw [if_neg (by omega), if_neg (by omega), if_neg h2, if_neg h3, if_neg h4, if_neg h5]
theorem frEnd_5 {b : List UInt8} {a n : Int} (h : 65536 < a + n) : frEnd b a n = (0, 5) := if_pos h
theorem frEnd_0 {b : List UInt8} {a n : Int} (h : ¬ 65536 < a + n) (h1 : (b.length : Int) < a + n) : frEnd b a n = (0, 0) := by unfold frEnd; rw [if_neg h, if_pos h1]
theorem frEnd_1 {b : List UInt8} {a n : Int} (h : ¬ 65536 < a + n) (h1 : ¬ (b.length : Int) < a + n) : frEnd b a n = (a + n, 0) := by unfold frEnd; rw [if_neg h, if_neg h1]
theorem frLong_bd (b : List UInt8) {k : Nat} (h : k ≤ 4) : 0 ≤ frLong b k ∧ frLong b k ≤ 4294967295 := Ber.be_small _ (by simp; omega)
theorem frLong_zero (b : List UInt8) : frLong b 0 = 0 := by
  unfold frLong
  rw [List.drop_of_length_le (by simp; omega)]; rfl
theorem frLong_succ {b : List UInt8} {k : Nat} (h : 2 + k < b.length) : frLong b (k + 1) = frLong b k * 256 + ((b.getD (2 + k) 0).toNat : Int) := by
  unfold frLong
  have h1 := Ber.be_snoc 0 (b.drop 2) k (by simp; omega)
  have e : ∀ j, (b.take (2 + j)).drop 2 = (b.drop 2).take j := fun j => by rw [List.drop_take, Nat.add_sub_cancel_left]
  rw [e, e, h1]
  congr 2
  simp [List.getD_eq_getElem?_getD]
theorem frameB_le (b : List UInt8) : 0 ≤ (frameB b).1 ∧ (frameB b).1 ≤ (b.length : Int) := by
  have hE : ∀ a n : Int, 0 ≤ a → 0 ≤ n → 0 ≤ (frEnd b a n).1 ∧ (frEnd b a n).1 ≤ (b.length : Int) := by
    intro a n ha hn
    unfold frEnd
    split
    · dsimp only; omega
    split <;> dsimp only <;> omega
  unfold frameB
  split
  · dsimp only; omega
  split
  · dsimp only; omega
  split
  · dsimp only; omega
  split
  · exact hE _ _ (by omega) (by omega)
  split
  · dsimp only; omega
  split
  · dsimp only; omega
  · rename_i h _
    exact hE _ _ (by omega) (frLong_bd b (by omega)).1
end Go.Ms
set_option maxRecDepth 8000
set_option linter.unusedVariables false
namespace Go.Proofs.YtkpghepeagafoaaGreat
open Go.Vk
attribute [local irreducible] HT HX RegS RegA RegM OpP OpC AltT
attribute [local irreducible] Ms.frLong Ms.frEnd
set_option maxHeartbeats 4000000 in
theorem msFrame (b : List UInt8) (hb : b.length ≤ 140737488355328) : CFn Tryz.prog 24 [TBytes b] (TTup [okI .i64 (Ms.frameB b).1, okI .i64 (Ms.frameB b).2]) := by
  have hx := (b.getD 1 0).toNat_lt
  by_cases h0 : b.length < 1
  · rw [Ms.frame_0 h0]
    refine CallsC.of Tryz.call24 Tryz.func24 rfl Tryz.ntmps24 rfl fun w0 G0 S0 hs ho => ?_
    exact run trivial
  by_cases h1 : (b.getD 0 0).toNat ≠ 48
  · rw [Ms.frame_1 h0 h1]
    refine CallsC.of Tryz.call24 Tryz.func24 rfl Tryz.ntmps24 rfl fun w0 G0 S0 hs ho => ?_
    exact run trivial
  have h1 : (b.getD 0 0).toNat = 48 := Decidable.not_not.1 h1
  by_cases h2 : b.length < 2
  · rw [Ms.frame_2 h0 h1 h2]
    refine CallsC.of Tryz.call24 Tryz.func24 rfl Tryz.ntmps24 rfl fun w0 G0 S0 hs ho => ?_
    exact run trivial
  by_cases h3 : (b.getD 1 0).toNat < 128
  · rw [Ms.frame_3 h1 h2 h3]
    by_cases h7 : 65536 < (2 : Int) + ((b.getD 1 0).toNat : Int)
    · omega
    by_cases h8 : (b.length : Int) < 2 + ((b.getD 1 0).toNat : Int)
    · rw [Ms.frEnd_0 h7 h8]
      have h3' : ¬ ¬ (b.getD (nat_lit 1) 0).toNat < 128 := fun h => h h3
      have h8' : (b.length : Int) < 2 + ((b.getD (nat_lit 1) 0).toNat : Int) := h8
      refine CallsC.of Tryz.call24 Tryz.func24 rfl Tryz.ntmps24 rfl fun w0 G0 S0 hs ho => ?_
      exact run trivial
    · rw [Ms.frEnd_1 h7 h8]
      have h3' : ¬ ¬ (b.getD (nat_lit 1) 0).toNat < 128 := fun h => h h3
      have h8' : ¬ (b.length : Int) < 2 + ((b.getD (nat_lit 1) 0).toNat : Int) := h8
      refine CallsC.of Tryz.call24 Tryz.func24 rfl Tryz.ntmps24 rfl fun w0 G0 S0 hs ho => ?_
      exact run trivial
  have h3' : ¬ (b.getD (nat_lit 1) 0).toNat < 128 := h3
  have hx' : (b.getD (nat_lit 1) 0).toNat < 256 := hx
  by_cases h4 : (b.getD 1 0).toNat = 128 ∨ 132 < (b.getD 1 0).toNat
  · rw [Ms.frame_4 h1 h2 h3 h4]
    have h4' : (b.getD (nat_lit 1) 0).toNat = 128 ∨ 132 < (b.getD (nat_lit 1) 0).toNat := h4
    refine CallsC.of Tryz.call24 Tryz.func24 rfl Tryz.ntmps24 rfl fun w0 G0 S0 hs ho => ?_
    exact run trivial
  have h4' : ¬ ((b.getD (nat_lit 1) 0).toNat = 128 ∨ 132 < (b.getD (nat_lit 1) 0).toNat) := h4
  by_cases h5 : b.length < 2 + ((b.getD 1 0).toNat - 128)
  · rw [Ms.frame_5 h1 h2 h3 h4 h5]
    have h5' : b.length < 2 + ((b.getD (nat_lit 1) 0).toNat - 128) := h5
    refine CallsC.of Tryz.call24 Tryz.func24 rfl Tryz.ntmps24 rfl fun w0 G0 S0 hs ho => ?_
    exact run trivial
  have h5' : ¬ b.length < 2 + ((b.getD (nat_lit 1) 0).toNat - 128) := h5
  rw [Ms.frame_6 h1 h2 h3 h4 h5]
  obtain ⟨k, hk⟩ : ∃ k : Nat, k = (b.getD 1 0).toNat - 128 := ⟨_, rfl⟩
  have hk' : k = (b.getD (nat_lit 1) 0).toNat - 128 := hk
  rw [← hk]
  have ek : ((b.getD (nat_lit 1) 0).toNat : Int) - 128 = (k : Int) := by omega
  have hk4 : 1 ≤ k ∧ k ≤ 4 ∧ 2 + k ≤ b.length := by omega
  refine CallsC.of Tryz.call24 Tryz.func24 rfl Tryz.ntmps24 rfl fun w0 G0 S0 hs ho => ?_
  refine run ?_
  intros
  have es : ((b.take (2 + (((b.getD (nat_lit 1) 0).toNat : Int) - 128)).toNat).drop (Int.toNat 2)).length = k := by
    rw [ek]; simp; omega
  refine HT.loopX (σ := Nat) [0, 2, 3, 4, 45, 46] (fun i => [(5, okI .i64 (Ms.frLong b i)), (47, okI .i64 (i : Int))]) (fun i => []) (fun i => i ≤ k) (fun i => k - i) 0 (Nat.zero_le _) (run trivial) (by refine run ?_; exact (Ms.frLong_zero b).symm) ?_
  intro i hi
  have hb1 := Ms.frLong_bd b (k := i) (by omega)
  by_cases hlt : i < k
  · have hz := Ms.frLong_succ (b := b) (k := i) (by omega)
    have hge : ((b.take (2 + (((b.getD (nat_lit 1) 0).toNat : Int) - 128)).toNat).drop (Int.toNat 2)).getD i 0 = b.getD (2 + i) 0 := by
      rw [ek, show (2 + (k : Int)).toNat = 2 + k by omega]
      show ((b.take (2 + k)).drop 2).getD i 0 = _
      rw [List.drop_take, Nat.add_sub_cancel_left, List.getD_eq_getElem?_getD, List.getD_eq_getElem?_getD, List.getElem?_take, if_pos hlt, List.getElem?_drop]
    refine run ?_
    intro _
    exact HX.roundX (i + 1) ⟨by omega, by omega⟩ rfl (run trivial) (by refine run ?_; rw [hz, hge])
  · have he : i = k := by omega
    subst he
    by_cases h7 : 65536 < (2 + (i : Int)) + Ms.frLong b i
    · rw [Ms.frEnd_5 h7]
      exact run trivial
    by_cases h8 : (b.length : Int) < (2 + (i : Int)) + Ms.frLong b i
    · rw [Ms.frEnd_0 h7 h8]
      exact run trivial
    · rw [Ms.frEnd_1 h7 h8]
      exact run trivial
set_option maxHeartbeats 4000000 in
theorem rfFrame25 (b : List UInt8) (hb : b.length ≤ 140737488355328) : CFn Tryz.prog 17 [TBytes b] (TTup [okI .i64 (Ms.frameB b).1, okI .i64 (Ms.frameB b).2]) := by
  have hx := (b.getD 1 0).toNat_lt
  by_cases h0 : b.length < 1
  · rw [Ms.frame_0 h0]
    refine CallsC.of Tryz.call17 Tryz.func17 rfl Tryz.ntmps17 rfl fun w0 G0 S0 hs ho => ?_
    exact run trivial
  by_cases h1 : (b.getD 0 0).toNat ≠ 48
  · rw [Ms.frame_1 h0 h1]
    have h1' : (b.getD (nat_lit 0) 0).toNat ≠ 48 := h1
    refine CallsC.of Tryz.call17 Tryz.func17 rfl Tryz.ntmps17 rfl fun w0 G0 S0 hs ho => ?_
    exact run trivial
  have h1 : (b.getD 0 0).toNat = 48 := Decidable.not_not.1 h1
  have h1' : (b.getD (nat_lit 0) 0).toNat = 48 := h1
  by_cases h2 : b.length < 2
  · rw [Ms.frame_2 h0 h1 h2]
    refine CallsC.of Tryz.call17 Tryz.func17 rfl Tryz.ntmps17 rfl fun w0 G0 S0 hs ho => ?_
    exact run trivial
  by_cases h3 : (b.getD 1 0).toNat < 128
  · rw [Ms.frame_3 h1 h2 h3]
    by_cases h7 : 65536 < (2 : Int) + ((b.getD 1 0).toNat : Int)
    · omega
    by_cases h8 : (b.length : Int) < 2 + ((b.getD 1 0).toNat : Int)
    · rw [Ms.frEnd_0 h7 h8]
      have h3' : ¬ ¬ (b.getD (nat_lit 1) 0).toNat < 128 := fun h => h h3
      have h8' : (b.length : Int) < 2 + ((b.getD (nat_lit 1) 0).toNat : Int) := h8
      refine CallsC.of Tryz.call17 Tryz.func17 rfl Tryz.ntmps17 rfl fun w0 G0 S0 hs ho => ?_
      exact run trivial
    · rw [Ms.frEnd_1 h7 h8]
      have h3' : ¬ ¬ (b.getD (nat_lit 1) 0).toNat < 128 := fun h => h h3
      have h8' : ¬ (b.length : Int) < 2 + ((b.getD (nat_lit 1) 0).toNat : Int) := h8
      refine CallsC.of Tryz.call17 Tryz.func17 rfl Tryz.ntmps17 rfl fun w0 G0 S0 hs ho => ?_
      exact run trivial
  have h3' : ¬ (b.getD (nat_lit 1) 0).toNat < 128 := h3
  have hx' : (b.getD (nat_lit 1) 0).toNat < 256 := hx
  by_cases h4 : (b.getD 1 0).toNat = 128 ∨ 132 < (b.getD 1 0).toNat
  · rw [Ms.frame_4 h1 h2 h3 h4]
    have h4' : (b.getD (nat_lit 1) 0).toNat = 128 ∨ 132 < (b.getD (nat_lit 1) 0).toNat := h4
    refine CallsC.of Tryz.call17 Tryz.func17 rfl Tryz.ntmps17 rfl fun w0 G0 S0 hs ho => ?_
    exact run trivial
  have h4' : ¬ ((b.getD (nat_lit 1) 0).toNat = 128 ∨ 132 < (b.getD (nat_lit 1) 0).toNat) := h4
  by_cases h5 : b.length < 2 + ((b.getD 1 0).toNat - 128)
  · rw [Ms.frame_5 h1 h2 h3 h4 h5]
    have h5' : b.length < 2 + ((b.getD (nat_lit 1) 0).toNat - 128) := h5
    refine CallsC.of Tryz.call17 Tryz.func17 rfl Tryz.ntmps17 rfl fun w0 G0 S0 hs ho => ?_
    exact run trivial
  have h5' : ¬ b.length < 2 + ((b.getD (nat_lit 1) 0).toNat - 128) := h5
  rw [Ms.frame_6 h1 h2 h3 h4 h5]
  obtain ⟨k, hk⟩ : ∃ k : Nat, k = (b.getD 1 0).toNat - 128 := ⟨_, rfl⟩
  have hk' : k = (b.getD (nat_lit 1) 0).toNat - 128 := hk
  rw [← hk]
  have ek : ((b.getD (nat_lit 1) 0).toNat : Int) - 128 = (k : Int) := by omega
  have hk4 : 1 ≤ k ∧ k ≤ 4 ∧ 2 + k ≤ b.length := by omega
  refine CallsC.of Tryz.call17 Tryz.func17 rfl Tryz.ntmps17 rfl fun w0 G0 S0 hs ho => ?_
  refine run ?_
  intros
  refine HT.loopX (σ := Nat) [0, 2, 3, 5, 6] (fun i => [(4, okI .i64 (Ms.frLong b i)), (7, okI .i64 (i : Int))]) (fun i => []) (fun i => i ≤ k) (fun i => k - i) 0 (Nat.zero_le _) (run trivial) (by refine run ?_; exact (Ms.frLong_zero b).symm) ?_
  intro i hi
  have hb1 := Ms.frLong_bd b (k := i) (by omega)
  by_cases hlt : i < k
  · have hz := Ms.frLong_succ (b := b) (k := i) (by omega)
    have hge : b.getD (2 + (i : Int)).toNat 0 = b.getD (2 + i) 0 := by rw [show (2 + (i : Int)).toNat = 2 + i by omega]
    refine run ?_
    intro _
    exact HX.roundX (i + 1) ⟨by omega, by omega⟩ rfl (run trivial) (run trivial)
  · have he : i = k := by omega
    subst he
    by_cases h7 : 65536 < (2 + (i : Int)) + Ms.frLong b i
    · rw [Ms.frEnd_5 h7]
      exact run trivial
    by_cases h8 : (b.length : Int) < (2 + (i : Int)) + Ms.frLong b i
    · rw [Ms.frEnd_0 h7 h8]
      exact run trivial
    · rw [Ms.frEnd_1 h7 h8]
      exact run trivial
end Go.Proofs.YtkpghepeagafoaaGreat
set_option linter.unusedVariables false
namespace Go.Ms
open Go.Vk
abbrev cZ (n : Int) : List Ty := [okI .i64 n]
structure Mod where
  kind : Int
  typ : List UInt8
  vals : List (List UInt8)
deriving DecidableEq
instance : Inhabited Mod := ⟨⟨0, [], []⟩⟩
def cMod (m : Mod) : List Ty := [okI .i64 m.kind, Is (str m.typ), TSl 1 En.cS m.vals]
def isIntZ (n : Int) (l : List Int) : Bool := l.any (fun k => decide (n = k))
/-- The cells of a request that names nothing but its number and kind. -/
abbrev zReq (n k : Int) : List Ty := [okI .i64 n, okI .i64 k, Is (str []), Is (str []), okI .i64 0, okI .i64 0, okI .i64 0, Is (str []), Is (str []), Is (.slice none 0 0), Is (.slice none 0 0), Is (.slice none 0 0), Is (.slice none 0 0), Is (.slice none 0 0), Is (str []), Is (.bool false), Is (.bool false), Is (str []), Is (str []), Is (str []), okI .i64 0]
end Go.Ms
set_option maxRecDepth 8000
set_option linter.unusedVariables false
namespace Go.Proofs.YtkpghepeagafoaaGreat
open Go.Vk
attribute [local irreducible] HT HX RegS RegA RegM OpP OpC AltT
attribute [local irreducible] Ber.tagB Ber.lenB Ber.intB
theorem ixInt (l : List Int) (n : Int) (hl : l.length ≤ 1152921504606846976) : CFn Tryz.prog 137 [TSl 1 Ms.cZ l, okI .i64 n] (okI .i64 (En.ixOf (fun k => decide (n = k)) l)) := by
  refine CallsC.of Tryz.call137 Tryz.func137 rfl Tryz.ntmps137 rfl fun w0 G0 S0 hs ho => ?_
  refine run ?_
  refine HT.loopX (σ := Nat) [0, 1, 7] (fun i => [(8, okI .i64 (i : Int))]) (fun i => []) (fun i => i ≤ l.length ∧ (l.take i).any (fun k => decide (n = k)) = false) (fun i => l.length - i) 0 ⟨by omega, by simp⟩ (run trivial) (run trivial) ?_
  rintro i ⟨hi, hp⟩
  refine run ?_
  refine ⟨fun h1 h2 => ?_, fun h1 h2 => ?_, fun h1 => ?_⟩
  · exact (En.ixOf_at (by omega) hp (decide_eq_true h2)).symm
  · exact HX.roundX (i + 1) ⟨⟨by omega, En.any_snoc (by omega) hp (decide_eq_false h2)⟩, by omega⟩ rfl (run trivial) (run trivial)
  · exact (En.ixOf_none (by rwa [List.take_of_length_le (by omega)] at hp)).symm
theorem anyInt (l : List Int) (n : Int) (hl : l.length ≤ 1152921504606846976) : CFn Tryz.prog 125 [TSl 1 Ms.cZ l, okI .i64 n] (Is (.bool (Ms.isIntZ n l))) := by
  have c1 := ixInt l n hl
  refine CallsC.of Tryz.call125 Tryz.func125 rfl Tryz.ntmps125 rfl fun w0 G0 S0 hs ho => ?_
  refine run ?_
  exact En.ixOf_nonneg
theorem msIsKind (n : Int) : CFn Tryz.prog 107 [okI .i64 n] (Is (.bool (Ms.isIntZ n [0, 2, 3, 6, 8, 10, 12, 14, 16]))) := by
  have c1 := anyInt [0, 2, 3, 6, 8, 10, 12, 14, 16] n (by decide)
  refine CallsC.of Tryz.call107 Tryz.func107 rfl Tryz.ntmps107 rfl fun w0 G0 S0 hs ho => ?_
  exact run trivial
theorem msIsNum (n m : Int) : CFn Tryz.prog 93 [okI .i64 n, okI .i64 m] (Is (.bool (decide (m ≤ n) && decide (n ≤ 2147483647)))) := by
  refine CallsC.of Tryz.call93 Tryz.func93 rfl Tryz.ntmps93 rfl fun w0 G0 S0 hs ho => ?_
  exact run trivial
theorem msFewS (l : List (List UInt8)) : CFn Tryz.prog 111 [TSl 1 En.cS l] (Is (.bool (decide ((l.length : Int) ≤ 64)))) := by
  refine CallsC.of Tryz.call111 Tryz.func111 rfl Tryz.ntmps111 rfl fun w0 G0 S0 hs ho => ?_
  exact run trivial
theorem msFewM (l : List Ms.Mod) : CFn Tryz.prog 112 [TSl 3 Ms.cMod l] (Is (.bool (decide ((l.length : Int) ≤ 64)))) := by
  refine CallsC.of Tryz.call112 Tryz.func112 rfl Tryz.ntmps112 rfl fun w0 G0 S0 hs ho => ?_
  exact run trivial
theorem msFewA (l : List En.Attr) : CFn Tryz.prog 113 [TSl 2 En.cAttr l] (Is (.bool (decide ((l.length : Int) ≤ 64)))) := by
  refine CallsC.of Tryz.call113 Tryz.func113 rfl Tryz.ntmps113 rfl fun w0 G0 S0 hs ho => ?_
  exact run trivial
theorem msText (s : List UInt8) (hs : s.length ≤ 1100000) : CFn Tryz.prog 119 [Is (str s)] (TBytes (Ber.tagB 4 [s])) := by
  have c1 := (tagO 4 [s] (by rw [Ber.tot_one]; omega) (by simp)).justFn
  refine CallsC.of Tryz.call119 Tryz.func119 rfl Tryz.ntmps119 rfl fun w0 G0 S0 hs ho => ?_
  exact run trivial
theorem modEq {f : FuncId} {Cs : List Ty} (l m : List Ms.Mod) (hl : l.length ≤ 1152921504606846976) (cf : ∀ a ∈ l, ∀ b, CFn Tryz.prog f ([TAgg (Ms.cMod a), TAgg (Ms.cMod b)] ++ Cs) (Is (.bool (decide (a = b))))) : CFn Tryz.prog 130 [TSl 3 Ms.cMod l, TSl 3 Ms.cMod m, TFn f Cs] (Is (.bool (decide (l = m)))) := by
  refine CallsC.of Tryz.call130 Tryz.func130 rfl Tryz.ntmps130 rfl fun w0 G0 S0 hs ho => ?_
  refine run ?_
  refine ⟨?_, ?_⟩
  · intro h
    exact (decide_eq_false (fun e => h (by rw [e]))).symm
  intro hc
  refine HT.loopX (σ := Nat) [1, 2, 15, 16] (fun i => [(17, okI .i64 (i : Int))]) (fun _ => []) (fun i => i ≤ l.length ∧ l.take i = m.take i) (fun i => l.length - i) 0 ⟨Nat.zero_le _, rfl⟩ (run trivial) (run trivial) ?_
  rintro i ⟨hi, he⟩
  have hc' : l.length = m.length := by
    have : (l.length : Int) = (m.length : Int) := Decidable.not_not.1 hc
    omega
  have cf' := fun (hlt : i < l.length) => cf (l.getD i default) (En.getD_mem hlt) (m.getD i default)
  clear cf
  refine run ?_
  refine ⟨fun _ _ h1 h2 => ?_, fun _ _ h1 h2 => ?_, fun h1 => ?_⟩
  · exact (decide_eq_false (fun e => h2 (by rw [e]))).symm
  · exact HX.roundX (i + 1) ⟨⟨by omega, En.take_ext (by omega) hc' he h2⟩, by omega⟩ rfl (run trivial) (run trivial)
  · exact (decide_eq_true (En.take_all h1 hc' he)).symm
theorem attrEq {f : FuncId} {Cs : List Ty} (l m : List En.Attr) (hl : l.length ≤ 1152921504606846976) (cf : ∀ a ∈ l, ∀ b, CFn Tryz.prog f ([TAgg (En.cAttr a), TAgg (En.cAttr b)] ++ Cs) (Is (.bool (decide (a = b))))) : CFn Tryz.prog 128 [TSl 2 En.cAttr l, TSl 2 En.cAttr m, TFn f Cs] (Is (.bool (decide (l = m)))) := by
  refine CallsC.of Tryz.call128 Tryz.func128 rfl Tryz.ntmps128 rfl fun w0 G0 S0 hs ho => ?_
  refine run ?_
  refine ⟨?_, ?_⟩
  · intro h
    exact (decide_eq_false (fun e => h (by rw [e]))).symm
  intro hc
  refine HT.loopX (σ := Nat) [1, 2, 15, 16] (fun i => [(17, okI .i64 (i : Int))]) (fun _ => []) (fun i => i ≤ l.length ∧ l.take i = m.take i) (fun i => l.length - i) 0 ⟨Nat.zero_le _, rfl⟩ (run trivial) (run trivial) ?_
  rintro i ⟨hi, he⟩
  have hc' : l.length = m.length := by
    have : (l.length : Int) = (m.length : Int) := Decidable.not_not.1 hc
    omega
  have cf' := fun (hlt : i < l.length) => cf (l.getD i default) (En.getD_mem hlt) (m.getD i default)
  clear cf
  refine run ?_
  refine ⟨fun _ _ h1 h2 => ?_, fun _ _ h1 h2 => ?_, fun h1 => ?_⟩
  · exact (decide_eq_false (fun e => h2 (by rw [e]))).symm
  · exact HX.roundX (i + 1) ⟨⟨by omega, En.take_ext (by omega) hc' he h2⟩, by omega⟩ rfl (run trivial) (run trivial)
  · exact (decide_eq_true (En.take_all h1 hc' he)).symm
theorem ixMod {f : FuncId} {Cs : List Ty} (l : List Ms.Mod) (p : Ms.Mod → Bool) (hl : l.length ≤ 1152921504606846976) (cf : ∀ a ∈ l, CFn Tryz.prog f ([TAgg (Ms.cMod a)] ++ Cs) (Is (.bool (p a)))) : CFn Tryz.prog 133 [TSl 3 Ms.cMod l, TFn f Cs] (okI .i64 (En.ixOf p l)) := by
  refine CallsC.of Tryz.call133 Tryz.func133 rfl Tryz.ntmps133 rfl fun w0 G0 S0 hs ho => ?_
  refine run ?_
  refine HT.loopX (σ := Nat) [0, 1, 7] (fun i => [(8, okI .i64 (i : Int))]) (fun i => []) (fun i => i ≤ l.length ∧ (l.take i).any p = false) (fun i => l.length - i) 0 ⟨by omega, by simp⟩ (run trivial) (run trivial) ?_
  rintro i ⟨hi, hp⟩
  have cf' := fun (hlt : i < l.length) => cf (l.getD i default) (En.getD_mem hlt)
  clear cf
  refine run ?_
  refine ⟨fun h1 h2 => ?_, fun h1 h2 => ?_, fun h1 => ?_⟩
  · exact (En.ixOf_at (by omega) hp h2).symm
  · exact HX.roundX (i + 1) ⟨⟨by omega, En.any_snoc (by omega) hp h2⟩, by omega⟩ rfl (run trivial) (run trivial)
  · exact (En.ixOf_none (by rwa [List.take_of_length_le (by omega)] at hp)).symm
theorem anyMod {f : FuncId} {Cs : List Ty} (l : List Ms.Mod) (p : Ms.Mod → Bool) (hl : l.length ≤ 1152921504606846976) (cf : ∀ a ∈ l, CFn Tryz.prog f ([TAgg (Ms.cMod a)] ++ Cs) (Is (.bool (p a)))) : CFn Tryz.prog 114 [TSl 3 Ms.cMod l, TFn f Cs] (Is (.bool (l.any p))) := by
  have c1 := ixMod l p hl cf
  refine CallsC.of Tryz.call114 Tryz.func114 rfl Tryz.ntmps114 rfl fun w0 G0 S0 hs ho => ?_
  refine run ?_
  exact En.ixOf_nonneg
end Go.Proofs.YtkpghepeagafoaaGreat
set_option linter.unusedVariables false
namespace Go.Ms
open Go.Vk
theorem zFil : TAgg (Fi.cF Fi.zeroF) = TAgg [okI .i64 0, Is (str []), Is (str []), TSl 1 Fi.cS [], TSl 5 Fi.cF []] := Fi.cF_open Fi.zeroF
end Go.Ms
set_option maxRecDepth 8000
set_option linter.unusedVariables false
namespace Go.Proofs.YtkpghepeagafoaaGreat
open Go.Vk
attribute [local irreducible] HT HX RegS RegA RegM OpP OpC AltT
attribute [local irreducible] Ber.tagB Ber.lenB Ber.intB
set_option maxHeartbeats 4000000 in
theorem msSame0 : CFn Tryz.prog 108 [TAgg (Ms.zReq 0 0), TAgg (Ms.zReq 0 0)] (Is (.bool true)) := by
  have c1 := fpSame 1 Fi.zeroF (by decide) (by decide) Fi.zeroF
  rw [decide_eq_true rfl, Ms.zFil] at c1
  have c2 := txtEq16 [] [] (by decide)
  rw [decide_eq_true rfl] at c2
  have c3 := modEq (f := 131) (Cs := []) [] [] (by decide) (fun a h => by cases h)
  rw [decide_eq_true rfl] at c3
  have c4 := attrEq (f := 129) (Cs := []) [] [] (by decide) (fun a h => by cases h)
  rw [decide_eq_true rfl] at c4
  refine CallsC.of Tryz.call108 Tryz.func108 rfl Tryz.ntmps108 rfl fun w0 G0 S0 hs ho => ?_
  refine run ?_
  exact ⟨fun h => by simp at h, fun _ h => by simp [allB] at h, fun _ _ => rfl⟩
set_option maxHeartbeats 4000000 in
theorem msUnnamed0 : CFn Tryz.prog 109 [TAgg (Ms.zReq 1 2)] (TAgg (Ms.zReq 0 0)) := by
  refine CallsC.of Tryz.call109 Tryz.func109 rfl Tryz.ntmps109 rfl fun w0 G0 S0 hs ho => ?_
  exact run trivial
set_option maxHeartbeats 4000000 in
theorem msSound0 : CFn Tryz.prog 96 [TAgg (Ms.zReq 1 2)] (Is (.bool true)) := by
  have c1 := msSame0
  have c2 := msUnnamed0
  have c3 : CFn Tryz.prog 107 [okI .i64 2] (Is (.bool true)) := msIsKind 2
  have c4 : CFn Tryz.prog 93 [okI .i64 1, okI .i64 1] (Is (.bool true)) := msIsNum 1 1
  have c5 : CFn Tryz.prog 93 [okI .i64 0, okI .i64 0] (Is (.bool true)) := msIsNum 0 0
  have c6 : CFn Tryz.prog 111 [TSl 1 En.cS []] (Is (.bool true)) := msFewS []
  have c7 : CFn Tryz.prog 112 [TSl 3 Ms.cMod []] (Is (.bool true)) := msFewM []
  have c8 : CFn Tryz.prog 113 [TSl 2 En.cAttr []] (Is (.bool true)) := msFewA []
  have c9 : CFn Tryz.prog 114 [TSl 3 Ms.cMod [], TFn 115 []] (Is (.bool false)) := anyMod [] (fun _ => true) (by decide) (fun a h => by cases h)
  have c10 : CFn Tryz.prog 116 [TSl 2 En.cAttr [], TFn 117 []] (Is (.bool false)) := anyAttr [] (fun _ => true) (by decide) (fun a h => by cases h)
  have su := Sure.mk' [9, 10, 11, 12, 15, 16, 17, 18, 19, 26, 27, 28, 31, 32, 33, 34, 37, 38, 39, 40, 47, 48, 49, 50, 56, 57, 58, 66, 67, 68, 69, 72, 73, 74, 75, 82, 83, 84, 85]
  refine CallsC.of Tryz.call96 Tryz.func96 rfl Tryz.ntmps96 rfl fun w0 G0 S0 hs ho => ?_
  refine run ?_
  exact ⟨fun _ _ _ h => by simp at h, fun _ _ _ _ _ => rfl⟩
set_option maxHeartbeats 4000000 in
theorem msOper0 : CFn Tryz.prog 99 [TAgg (Ms.zReq 1 2)] (TBytes (Ber.tagB 66 [])) := by
  have c1 := msText [] (by decide)
  have c2 := (tagO 66 [] (by decide) (by decide)).justFn
  refine CallsC.of Tryz.call99 Tryz.func99 rfl Tryz.ntmps99 rfl fun w0 G0 S0 hs ho => ?_
  exact run trivial
set_option maxHeartbeats 4000000 in
theorem msEncode0 : CFn Tryz.prog 80 [TAgg (Ms.zReq 1 2)] (TTup [TBytes [48, 5, 2, 1, 1, 66, 0], okI .i64 0]) := by
  have c1 := msSound0
  have c2 := msOper0
  have c3 := int 1 (by decide)
  have c4 := (tagO 2 [Ber.intB 1] (by decide +kernel) (by decide)).justFn
  have c5 := (tagO 48 [Ber.tagB 2 [Ber.intB 1], Ber.tagB 66 []] (by decide +kernel) (by decide)).justFn
  have e : Ber.tagB 48 [Ber.tagB 2 [Ber.intB 1], Ber.tagB 66 []] = [48, 5, 2, 1, 1, 66, 0] := by decide +kernel
  rw [e] at c5
  have c6 : CFn Tryz.prog 97 [okI .u8 48, TSlX 1 (fun ts : List Ty => ts) [[TBytes (Ber.tagB 2 [Ber.intB 1])], [TBytes (Ber.tagB 66 [])]]] (TBytes [48, 5, 2, 1, 1, 66, 0]) := CFn.sub c5 (by exact byQ)
  have c7 : CFn Tryz.prog 97 [okI .u8 2, TSlX 1 (fun ts : List Ty => ts) [[TBytes (Ber.intB 1)]]] (TBytes (Ber.tagB 2 [Ber.intB 1])) := CFn.sub c4 (by exact byQ)
  clear c4 c5
  refine CallsC.of Tryz.call80 Tryz.func80 rfl Tryz.ntmps80 rfl fun w0 G0 S0 hs ho => ?_
  refine run ?_
  exact ⟨fun _ h => absurd h (by decide), fun _ h => absurd h (by decide)⟩
theorem opnBytes : Opn Tryz.prog 27 (cL 1 cB) (fun l => l.length ≤ 140737488351232) := by
  have h := Opn.slice (Opn.byte Tryz.underlying5 (by kernel_rfl)) Tryz.underlying27 (by kernel_rfl) (by kernel_rfl)
  rw [show Tryz.prog.cellsOf 5 = 1 by kernel_rfl] at h
  have hb : Tryz.prog.bytesOf 5 = 1 := by kernel_rfl
  exact h.map id (fun l => by rw [show Tryz.prog.cellsOf 27 = 1 by kernel_rfl]; rfl) (fun _ => rfl) (fun l hl => by have := reach_le hl.1; rw [hb] at this; show l.length ≤ _; omega)
end Go.Proofs.YtkpghepeagafoaaGreat
set_option linter.unusedVariables false
namespace Go.Ss
open Go.Vk
def tot (ls : List (List UInt8)) : Nat := ls.flatten.length
theorem tot_snoc {ls : List (List UInt8)} {i : Nat} (h : i < ls.length) : (ls.take (i + 1)).flatten = (ls.take i).flatten ++ ls.getD i default := by
  rw [List.take_add_one, List.flatten_append, List.getElem?_eq_getElem h, List.getD_eq_getElem?_getD, List.getElem?_eq_getElem h]
  simp
theorem tot_take (ls : List (List UInt8)) (i : Nat) : (ls.take i).flatten.length ≤ ls.flatten.length := by
  have : ls.flatten = (ls.take i).flatten ++ (ls.drop i).flatten := by rw [← List.flatten_append, List.take_append_drop]
  rw [this, List.length_append]; omega
abbrev cTB (l : List UInt8) : List Ty := [TBytes l]
end Go.Ss
set_option maxRecDepth 8000
set_option linter.unusedVariables false
namespace Go.Proofs.YtkpghepeagafoaaGreat
open Go.Vk
attribute [local irreducible] HT HX RegS RegA RegM OpP OpC AltT
section
variable {P : Program} {F : FCtx} {E : Env} {L : List Res} {Q : Exit → Act → World → Prop} {code : Code} {g c : Nat} {e : TypeId}
/-- Room that holds nothing is a slice of one's own. -/
theorem HT.roomT {t : Nat} (k : Nat) (hE : E.get t = some (Is (slAt g 0 c))) (hL : L[k]? = some (ownA g c e 1 (fun ts : List Ty => ts) [])) (h : HT F ((t, TAnd (Is (.slice (some ⟨g, 0, none⟩) 0 c)) (TBytes [])) :: E) (L.set k (ownSl (.slice (some ⟨g, 0, none⟩) 0 c) 1 e)) code Q) : HT F E L code Q := by
  unfold HT at h ⊢
  intro a w G S hi ht
  obtain ⟨h1, h2, h3, rest, h4, kS, ⟨cs, kc, kcs, kv⟩, kfree⟩ := hi.owns.res k _ hL
  have h4' : cs.size = c * 1 := by rw [kcs]; exact h4
  have ho1 := hi.owns.put (R' := ownSl (.slice (some ⟨g, 0, none⟩) 0 c) 1 e) hL (.inr ⟨g, 0, c, cs, rfl, kS, kc, Nat.zero_le _, h3, h4', fun o _ => kfree o⟩)
  refine h a w G _ ⟨hi.ext, ho1, hi.mine⟩ ⟨ht.size, ht.defers, fun t' T' e' => ?_⟩
  simp only [Env.get] at e'
  cases hb : Nat.beq t t' with
  | false => rw [hb] at e'; exact ht.get t' T' e'
  | true =>
    rw [hb] at e'
    cases e'
    have := Nat.eq_of_beq_eq_true hb
    subst this
    have hv : a.tmps.getD t undef = slAt g 0 c := ht.get t _ hE
    rw [hv, slAt_def]
    exact ⟨rfl, some ⟨g, 0, none⟩, c, rfl, Nat.zero_le _, h3, (fun x => by cases x), (fun x => by cases x), fun ad had => by
        cases had
        exact ⟨fun h => absurd h (by simp), fun i y hy => by simp at hy⟩⟩
end
theorem bGrow (n : Int) (h : 0 < n ∧ n ≤ 100000000) : CallsC Tryz.prog 23 [Is (.slice none 0 0), okI .i64 n] [] (fun v => TAnd (Is v) (TBytes [])) (fun v => [ownSl v 1 5]) := by
  have st := Stop.mk' 6
  refine CallsC.of Tryz.call23 Tryz.func23 rfl Tryz.ntmps23 rfl fun w0 G0 S0 hs ho => ?_
  refine run ?_
  intro v0 _ _
  refine HTs.mk ?_
  clear st
  refine HT.roomT (t := 0) 0 rfl rfl ?_
  exact run trivial
set_option maxHeartbeats 1000000 in
theorem bConcat (ls : List (List UInt8)) (h0 : 0 < ls.flatten.length) (h1 : ls.flatten.length ≤ 10000000) (hn : ls.length ≤ 1000000) : CFn Tryz.prog 14 [TSl 1 Ss.cTB ls] (TBytes ls.flatten) := by
  have c1 := bGrow
  refine CallsC.of Tryz.call14 Tryz.func14 rfl Tryz.ntmps14 rfl fun w0 G0 S0 hs ho => ?_
  refine run ?_
  refine HT.loopX (σ := Nat) [0, 2, 9, 10] (fun i => [(3, okI .i64 ((ls.take i).flatten.length : Int)), (11, okI .i64 (i : Int))]) (fun _ => []) (fun i => i ≤ ls.length) (fun i => ls.length - i) 0 (Nat.zero_le _) (run trivial) (by refine run ?_; rfl) ?_
  intro i hi
  by_cases hlt : i < ls.length
  · have e1 := Ss.tot_snoc hlt
    have e2 := Ss.tot_take ls (i + 1)
    rw [e1, List.length_append] at e2
    clear c1
    refine run ?_
    intro _ _
    exact HX.roundX (i + 1) ⟨by omega, by omega⟩ rfl (run trivial) (by refine run ?_; rw [e1, List.length_append]; omega)
  · rw [List.take_of_length_le (by omega)]
    refine run ?_
    intro v0 _
    refine HT.loopX (σ := (Nat × List UInt8) × Value) [2, 25, 26] (fun t => [(6, TAnd (Is t.2) (TBytes t.1.2)), (27, okI .i64 (t.1.1 : Int))]) (fun t => [ownSl t.2 1 5]) (fun t => t.1.1 ≤ ls.length ∧ t.1.2 = (ls.take t.1.1).flatten) (fun t => ls.length - t.1.1) ((0, []), v0) ⟨Nat.zero_le _, rfl⟩ (run trivial) (run trivial) ?_
    clear hi hlt c1
    rintro ⟨⟨j, b⟩, v⟩ ⟨hj, hb⟩
    dsimp only at hj hb ⊢
    by_cases hlt : j < ls.length
    · have e1 := Ss.tot_snoc hlt
      have e2 := Ss.tot_take ls (j + 1)
      rw [e1, List.length_append, ← hb] at e2
      refine run ?_
      intro v' _
      exact HX.roundX ((j + 1, b ++ ls.getD j default), v') ⟨⟨by dsimp only; omega, by dsimp only; rw [e1, hb]⟩, by dsimp only; omega⟩ rfl (run trivial) (run trivial)
    · have hb' : b = ls.flatten := by rw [hb, List.take_of_length_le (by omega)]
      subst hb'
      exact run trivial
end Go.Proofs.YtkpghepeagafoaaGreat
set_option maxRecDepth 8000
set_option linter.unusedVariables false
namespace Go.Proofs.YtkpghepeagafoaaGreat
open Go.Vk
attribute [local irreducible] HT HX RegS RegA RegM OpP OpC AltT
theorem tagB_len1 (tag : UInt8) (body : List UInt8) : 2 ≤ (Ber.tagB tag [body]).length ∧ (Ber.tagB tag [body]).length ≤ body.length + 10 := by
  have h := Ber.lenB_len (body.length : Int)
  have h2 : 1 ≤ (Ber.lenB (body.length : Int)).length := by
    unfold Ber.lenB; split <;> simp
  rw [Ber.tagB_one]
  simp only [List.length_cons, List.length_append]
  omega
theorem nextAt {b : List UInt8} {r : Ber.NextR} (h : Ber.nextB b = r) (hl : b.length ≤ 140737488355328) : CFn Tryz.prog 43 [TBytes b] (TTup [okI .u8 (r.tag.toNat : Int), TBytes r.body, TBytes r.rest, okI .i64 r.e]) := by
  subst h; exact nextP b hl
theorem rep_len (body : List UInt8) (n : Nat) (h : body.length ≤ 300) : (List.replicate n body).flatten.length ≤ n * 300 := by
  induction n with
  | zero => simp
  | succ n ih => rw [List.replicate_succ, List.flatten_cons, List.length_append]; omega
theorem rep_succ (body : List UInt8) (n : Nat) : (List.replicate (n + 1) body).flatten = (List.replicate n body).flatten ++ body := by
  rw [List.replicate_succ', List.flatten_append]; simp
end Go.Proofs.YtkpghepeagafoaaGreat
set_option maxRecDepth 8000
set_option linter.unusedVariables false
namespace Go.Proofs.YtkpghepeagafoaaGreat
open Go.Vk
attribute [local irreducible] HT HX RegS RegA RegM OpP OpC AltT
theorem refNext (b : List UInt8) (hl : b.length ≤ 137438953472) : CFn Tryz.prog 26 [TBytes b] (TTup [okI .u8 ((Ber.nextB b).tag.toNat : Int), TBytes (Ber.nextB b).body, TBytes (Ber.nextB b).rest, okI .i64 (Ber.nextB b).e]) := by
  have hlt := (b.getD 1 0).toNat_lt
  refine CallsC.of Tryz.call26 Tryz.func26 rfl Tryz.ntmps26 rfl fun w0 G0 S0 hs ho => ?_
  refine run ?_
  and_intros
  all_goals intros
  all_goals (first
    | (rw [Ber.nextB_err (Ber.headB_0 (by assumption)) (by decide)]; done)
    | (rw [Ber.nextB_err (Ber.headB_0 (by assumption)) (by decide)]; rfl)
    | (rw [Ber.nextB_err (Ber.headB_31 (by assumption) (by assumption)) (by decide)]; done)
    | (rw [Ber.nextB_err (Ber.headB_31 (by assumption) (by assumption)) (by decide)]; rfl)
    | (rw [Ber.nextB_err (Ber.headB_2 (by assumption) (by assumption) (by assumption)) (by decide)]; done)
    | (rw [Ber.nextB_err (Ber.headB_2 (by assumption) (by assumption) (by assumption)) (by decide)]; rfl)
    | (rw [Ber.nextB_err (Ber.headB_3 (by assumption) (by assumption) (by assumption) (by assumption)) (by decide)]; done)
    | (rw [Ber.nextB_err (Ber.headB_3 (by assumption) (by assumption) (by assumption) (by assumption)) (by decide)]; rfl)
    | (rw [Ber.nextB_err (Ber.headB_4 (by assumption) (by assumption) (by assumption) (by assumption) (by assumption)) (by decide)]; done)
    | (rw [Ber.nextB_err (Ber.headB_4 (by assumption) (by assumption) (by assumption) (by assumption) (by assumption)) (by decide)]; rfl)
    | (rw [Ber.nextB_2 (Ber.headB_b (by assumption) (by assumption) (by assumption)) (by assumption) (by assumption)]; done)
    | (rw [Ber.nextB_2 (Ber.headB_b (by assumption) (by assumption) (by assumption)) (by assumption) (by assumption)]; rfl)
    | (rw [Ber.nextB_ok (Ber.headB_b (by assumption) (by assumption) (by assumption)) (by assumption) (by assumption)]; done)
    | (rw [Ber.nextB_ok (Ber.headB_b (by assumption) (by assumption) (by assumption)) (by assumption) (by assumption)]; rfl)
    | skip)
  have hd5 := Ber.headB_5 (b := b) (by assumption) (by assumption) (by assumption) (by assumption) (by assumption)
  generalize hk : ((b.getD 1 0).toNat : Int) - 128 = k at *
  refine HT.loopX (σ := Nat) [0, 2, 3, 4, 5, 7, 8] (fun i => [(6, okI .i64 (Ber.be 0 ((b.drop 2).take i))), (9, okI .i64 (i : Int))]) (fun i => []) (fun i => i ≤ k.toNat) (fun i => k.toNat - i) 0 (Nat.zero_le _) (run trivial) (run ?_) ?_
  · rfl
  intro i hi
  have hbs := Ber.be_small ((b.drop 2).take i) (by rw [List.length_take]; omega)
  have hd6 : ¬ (i : Int) < k → Ber.headB b = (2 + k, Ber.be 0 ((b.drop 2).take i), 0) := fun h => by rw [show i = k.toNat by omega]; exact hd5
  clear hd5
  refine run ?_
  and_intros
  all_goals intros
  all_goals (first
    | (rw [Ber.nextB_5 (hd6 (by assumption)) (by assumption)]; done)
    | (rw [Ber.nextB_5 (hd6 (by assumption)) (by assumption)]; rfl)
    | (rw [Ber.nextB_2 (hd6 (by assumption)) (by assumption) (by assumption)]; done)
    | (rw [Ber.nextB_2 (hd6 (by assumption)) (by assumption) (by assumption)]; rfl)
    | (rw [Ber.nextB_ok (hd6 (by assumption)) (by assumption) (by assumption)]; done)
    | (rw [Ber.nextB_ok (hd6 (by assumption)) (by assumption) (by assumption)]; rfl)
    | skip)
  refine HX.roundX (i + 1) ⟨by omega, by omega⟩ rfl (run trivial) (run ?_)
  rw [Ber.be_snoc _ _ _ (by rw [List.length_drop]; omega)]
  simp [List.getD_eq_getElem?_getD]
theorem refLength (n : Int) (h : 0 ≤ n ∧ n ≤ 9223372036854775807) : CFn Tryz.prog 87 [okI .i64 n] (TBytes (Ber.lenB n)) := by
  refine CallsC.of Tryz.call87 Tryz.func87 rfl Tryz.ntmps87 rfl fun w0 G0 S0 hs ho => ?_
  refine run ?_
  and_intros
  all_goals intros
  · rw [Ber.lenB, if_pos (by assumption)]
  · refine HT.loopX (σ := Nat × Int × List UInt8) [2] (fun s => [(0, okI .i64 s.2.1), (3, TBytes s.2.2)]) (fun _ => []) (fun s => Ber.lenAcc s.1 s.2.1 s.2.2 = Ber.lenAcc 8 n [] ∧ 0 ≤ s.2.1 ∧ s.2.1 < 256 ^ s.1 ∧ s.2.2.length + s.1 = 8) (fun s => s.1) (8, n, []) ⟨rfl, h.1, by simp; omega, rfl⟩ (run trivial) (run trivial) ?_
    rintro ⟨k, m, acc⟩ ⟨h1, h2, h3, h4⟩
    dsimp only at h1 h2 h3 h4 ⊢
    refine run ?_
    and_intros
    all_goals intros
    · obtain ⟨k, rfl⟩ : ∃ j, k = j + 1 := by
        cases k with
        | zero => simp at h3; omega
        | succ k => exact ⟨k, rfl⟩
      refine HX.roundX (k, m / 256, b8 m :: acc) ⟨⟨?_, by dsimp only; omega, ?_, by simp; omega⟩, by dsimp only; omega⟩ rfl (run trivial) (run ?_)
      · rw [← h1, Ber.lenAcc, if_pos (by assumption)]
      · dsimp only; rw [Int.pow_succ] at h3; omega
      · rfl
    · have hacc : acc = Ber.lenAcc 8 n [] := by
        rw [← h1]
        cases k with
        | zero => rfl
        | succ k => rw [Ber.lenAcc, if_neg (by omega)]
      rw [Ber.lenB, if_neg (by omega), ← hacc]
      rfl
attribute [local irreducible] Ber.lenB in
theorem refTag (tag : UInt8) (body : List UInt8) (hl : body.length ≤ 70368744177664) : CFn Tryz.prog 63 [okI .u8 (tag.toNat : Int), TBytes body] (TBytes (Ber.tagB tag [body])) := by
  have c1 := @refLength
  have mu := Mut.mk' [6]
  have h := Ber.lenB_len (body.length : Int)
  refine CallsC.of Tryz.call63 Tryz.func63 rfl Tryz.ntmps63 rfl fun w0 G0 S0 hs ho => ?_
  refine run ?_
  intros
  rw [Ber.tagB_one]
  simp
end Go.Proofs.YtkpghepeagafoaaGreat
set_option maxRecDepth 8000
set_option linter.unusedVariables false
namespace Go.Proofs.YtkpghepeagafoaaGreat
open Go.Vk
attribute [local irreducible] HT HX RegS RegA RegM OpP OpC AltT
attribute [local irreducible] Ber.lenB Ber.tagB Ber.nextB
theorem tagB_two (tag : UInt8) (a b : List UInt8) : Ber.tagB tag [a, b] = Ber.tagB tag [a ++ b] := by
  unfold Ber.tagB
  simp [Ber.tot]
theorem row_len {zs : List Int} {len : Nat} (h : len ≤ 140737488351232) : (bytesOf (zs.take len)).length ≤ 140737488351232 := by
  simp only [bytesOf, List.length_map, List.length_take]
  omega
end Go.Proofs.YtkpghepeagafoaaGreat
