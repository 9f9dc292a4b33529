/-
  The contracts of the program's parser of filters: items.
  The contracts of the program's parser of filters: items, and filters within filters.
  The contracts of the program's parser of filters: filters within filters.
  The contract of the program's Parse of filters: it answers as the plain parser does.
  The contracts of Same of filters, the program's and the document's.
  The contracts of the document's Same.
  The contracts of the program's Print, and of the law's known.
-/
import Derived.Test.YthjckklijlfghaaGan
import Derived.Test.YthjckklijlfghaaGak
import Derived.Test.YthjckklijlfghaaGal
import Derived.Test.YthjckklijlfghaaGam
set_option linter.unusedSimpArgs false
set_option linter.unusedVariables false
set_option linter.unusedVariables false
namespace Go.Fi
open Go.Vk
/-- Pieces, some of which are there already. -/
def starsE (acc : List (List UInt8)) (r : List UInt8) (e : Int) : List (List UInt8) × St := (acc ++ (pStars r e).1, (pStars r e).2)
theorem pStars_suf (r : List UInt8) (e : Int) : (pStars r e).2.1 <:+ r := by
  induction hn : r.length using Nat.strongRecOn generalizing r e with
  | _ n ih =>
    cases r with
    | nil => rw [pStars_nil]; exact List.suffix_refl _
    | cons c t =>
      by_cases h : e = 0 ∧ c = 42
      · obtain ⟨rfl, rfl⟩ := h
        rw [pStars_star]
        have := pVal_le t
        simp only [List.length_cons] at hn
        exact (ih _ (by omega) _ _ rfl).trans ((pVal_suf t).trans (List.suffix_cons _ _))
      · rw [pStars_no h]; exact List.suffix_refl _
theorem stars_go {acc : List (List UInt8)} {s : List UInt8} {i : Nat} (h : tk [42] (s.drop i) = true) : starsE acc (s.drop i) 0 = starsE (acc ++ [(pVal (s.drop (i + 1))).1]) (pVal (s.drop (i + 1))).2.1 (pVal (s.drop (i + 1))).2.2 := by
  obtain ⟨t, e⟩ := tk1.1 h
  have e2 : s.drop (i + 1) = t := by
    rw [← List.drop_drop, e]; rfl
  unfold starsE
  rw [e, e2, pStars_star]
  simp
theorem stars_end {acc : List (List UInt8)} {r : List UInt8} {e : Int} (h : ¬ (e = 0 ∧ tk [42] r = true)) : starsE acc r e = (acc, r, e) := by
  unfold starsE
  cases r with
  | nil => rw [pStars_nil]; simp
  | cons c t =>
    rw [pStars_no (fun x => h ⟨x.1, by rw [x.2]; exact tk_yes 42 t⟩)]; simp
theorem pEq_stars (r : List UInt8) : pEq r = starsE [(pVal r).1] (pVal r).2.1 (pVal r).2.2 := by
  unfold pEq starsE
  simp
theorem posI_def (s r : List UInt8) : posI s r = (s.length : Int) - (r.length : Int) := rfl
theorem tk_lt {c : UInt8} {s : List UInt8} {i : Nat} (h : tk [c] (s.drop i) = true) : i < s.length := by
  obtain ⟨t, e⟩ := tk1.1 h
  have := congrArg List.length e
  rw [List.length_drop, List.length_cons] at this
  omega
end Go.Fi
set_option linter.unusedVariables false
namespace Go.Proofs.Ythjckklijlfghaa
open Go.Vk
attribute [local irreducible] HT HX RegS RegA RegM OpP OpC AltT
attribute [local irreducible] Dn.typB Dn.halfV Fi.pKind Fi.tk Fi.posI
abbrev FX (g : Nat) (f : Fi.Fil) : Res := ownP g 25 (Fi.cF f)
set_option maxHeartbeats 4000000 in
theorem fpEqual (g g2 : Nat) (t s : List UInt8) (a : Int) (ha : 0 ≤ a ∧ a ≤ s.length) (hsl : s.length ≤ 1000000) : CallsC Try.prog 48 [Is (pAt g 0), Is (pAt g2 0)] [PX g s a 0, FX g2 (.mk 0 t [] [] [])] (fun _ => TTup []) (fun _ => [PX g s (Fi.posI s (Fi.pEq (s.drop a.toNat)).2.1) (Fi.pEq (s.drop a.toNat)).2.2, FX g2 (Fi.mkEq t (Fi.pEq (s.drop a.toNat)).1)]) := by
  have c1 := fpValue
  have c2 := fpTakes
  have su := Sure.mk' [14, 15]
  have mu := Mut.mk' [7]
  obtain ⟨n, rfl⟩ : ∃ n : Nat, a = (n : Int) := ⟨a.toNat, by omega⟩
  have hp := Fi.pEq_stars (s.drop n)
  have hdef : (default : List UInt8) = [] := rfl
  rw [Int.toNat_natCast]
  refine CallsC.of Try.call48 Try.func48 rfl Try.ntmps48 rfl fun w0 G0 S0 hs ho => ?_
  refine run ?_
  intro v0
  have hsf := (Fi.pVal_suf (s.drop n)).trans (Fi.suf_drop s n)
  have hb0 := Fi.pos_bd hsf
  have hd0 := Fi.drop_pos hsf
  refine HT.loopX (σ := List (List UInt8) × Nat × Int × Value) [0, 1] (fun t' => [(4, TAnd (Is t'.2.2.2) (TSl 1 Fi.cS t'.1))]) (fun t' => [PX g s (t'.2.1 : Int) t'.2.2.1, FX g2 (.mk 0 t [] [] []), ownSl t'.2.2.2 1 9]) (fun t' => t'.2.1 ≤ s.length ∧ (1 ≤ t'.1.length ∧ t'.1.length ≤ t'.2.1 + 1) ∧ Fi.starsE t'.1 (s.drop t'.2.1) t'.2.2.1 = Fi.pEq (s.drop n)) (fun t' => if t'.2.2.1 = 0 then s.length - t'.2.1 + 1 else 0) ([(Fi.pVal (s.drop n)).1], (Fi.posI s (Fi.pVal (s.drop n)).2.1).toNat, (Fi.pVal (s.drop n)).2.2, v0) ⟨by dsimp only; omega, by simp, by dsimp only; rw [hd0, hp]⟩ (run trivial) (run trivial) ?_
  rintro ⟨acc, i, e, v⟩ ⟨hi, hl, he⟩
  dsimp only at hi hl he ⊢
  have hcase : (acc.length = 1 ∧ Fi.mkEq t acc = .mk 3 t (acc.getD 0 []) [] []) ∨ (¬ acc.length = 1 ∧ (acc.length = 2 ∧ acc.getD 0 [] = [] ∧ acc.getD 1 [] = []) ∧ Fi.mkEq t acc = .mk 7 t [] [] []) ∨ (¬ acc.length = 1 ∧ ¬ (acc.length = 2 ∧ acc.getD 0 [] = [] ∧ acc.getD 1 [] = []) ∧ Fi.mkEq t acc = .mk 4 t [] acc []) := by
    unfold Fi.mkEq
    by_cases h1 : acc.length = 1
    · exact .inl ⟨h1, if_pos h1⟩
    by_cases h2 : acc.length = 2 ∧ acc.getD 0 [] = [] ∧ acc.getD 1 [] = []
    · exact .inr (.inl ⟨h1, h2, by rw [if_neg h1, if_pos h2]⟩)
    · exact .inr (.inr ⟨h1, h2, by rw [if_neg h1, if_neg h2]⟩)
  by_cases he0 : e = 0
  · subst he0
    cases hk : Fi.tk [42] (s.drop i) with
    | true =>
      have hlt := Fi.tk_lt hk
      have hz := Fi.stars_go (acc := acc) hk
      rw [he] at hz
      have hsf2 := (Fi.pVal_suf (s.drop (i + 1))).trans (Fi.suf_drop s (i + 1))
      have hb2 := Fi.pos_bd hsf2
      have hd2 := Fi.drop_pos hsf2
      have hle := Fi.pVal_le (s.drop (i + 1))
      rw [List.length_drop] at hle
      have hge : (i : Int) + 1 ≤ Fi.posI s (Fi.pVal (s.drop (i + 1))).2.1 := by
        have := Fi.posI_def s (Fi.pVal (s.drop (i + 1))).2.1
        omega
      have c2' := fpTakes g s [42] (i : Int) 0 (by omega) ⟨hsl, by decide⟩
      rw [Int.toNat_natCast, hk, if_pos rfl] at c2'
      have c1' := fpValue g s ((i : Int) + 1) (by omega) hsl
      rw [show ((i : Int) + 1).toNat = i + 1 by omega] at c1'
      clear c1 c2
      refine run ?_
      intro v' _
      exact HX.roundX (acc ++ [(Fi.pVal (s.drop (i + 1))).1], (Fi.posI s (Fi.pVal (s.drop (i + 1))).2.1).toNat, (Fi.pVal (s.drop (i + 1))).2.2, v') ⟨⟨by dsimp only; omega, by dsimp only; rw [List.length_append, List.length_singleton]; omega, by dsimp only; rw [hd2]; exact hz.symm⟩, by dsimp only; rw [if_pos rfl]; split <;> omega⟩ rfl (run trivial) (run trivial)
    | false =>
      have hq1 : Fi.pEq (s.drop n) = (acc, s.drop i, 0) := by rw [← he, Fi.stars_end (by rw [hk]; simp)]
      have hpos := Fi.pos_drop hi
      have c2' := fpTakes g s [42] (i : Int) 0 (by omega) ⟨hsl, by decide⟩
      rw [Int.toNat_natCast, hk, if_neg (by simp)] at c2'
      clear c1 c2
      rw [hq1]
      rcases hcase with ⟨h1, h2⟩ | ⟨h1, h3, h2⟩ | ⟨h1, h3, h2⟩
      · rw [h2]
        refine run ?_
        and_intros <;> intros <;> first | rfl | (exfalso; grind)
      · rw [h2]
        refine run ?_
        and_intros <;> intros <;> first | rfl | (exfalso; grind)
      · rw [h2]
        refine run ?_
        and_intros <;> intros <;> first | rfl | (exfalso; grind)
  · have hq1 : Fi.pEq (s.drop n) = (acc, s.drop i, e) := by rw [← he, Fi.stars_end (fun x => he0 x.1)]
    have hpos := Fi.pos_drop hi
    rw [hq1]
    clear c1 c2
    rcases hcase with ⟨h1, h2⟩ | ⟨h1, h3, h2⟩ | ⟨h1, h3, h2⟩
    · rw [h2]
      refine run ?_
      and_intros <;> intros <;> first | rfl | (exfalso; grind)
    · rw [h2]
      refine run ?_
      and_intros <;> intros <;> first | rfl | (exfalso; grind)
    · rw [h2]
      refine run ?_
      and_intros <;> intros <;> first | rfl | (exfalso; grind)
end Go.Proofs.Ythjckklijlfghaa
set_option linter.unusedVariables false
namespace Go.Fi
open Go.Vk
theorem pKind_suf (r : List UInt8) : (pKind r).2.1 <:+ r := List.dropWhile_suffix _
theorem pEq_suf (r : List UInt8) : (pEq r).2.1 <:+ r := (pStars_suf _ _).trans (pVal_suf r)
theorem pRest_1 {t r : List UInt8} (h : tk [61] r = true) : pRest t r = (mkEq t (pEq (r.drop 1)).1, (pEq (r.drop 1)).2) := if_pos h
theorem pRest_2 {t r : List UInt8} (h1 : tk [61] r = false) (h : tk [62, 61] r = true) : pRest t r = (.mk 5 t (pVal (r.drop 2)).1 [] [], (pVal (r.drop 2)).2) := by
  unfold pRest; rw [if_neg (by rw [h1]; simp), if_pos h]
theorem pRest_3 {t r : List UInt8} (h1 : tk [61] r = false) (h2 : tk [62, 61] r = false) (h : tk [60, 61] r = true) : pRest t r = (.mk 6 t (pVal (r.drop 2)).1 [] [], (pVal (r.drop 2)).2) := by
  unfold pRest; rw [if_neg (by rw [h1]; simp), if_neg (by rw [h2]; simp), if_pos h]
theorem pRest_4 {t r : List UInt8} (h1 : tk [61] r = false) (h2 : tk [62, 61] r = false) (h3 : tk [60, 61] r = false) (h : tk [126, 61] r = true) : pRest t r = (.mk 3 t (pVal (r.drop 2)).1 [] [], (pVal (r.drop 2)).2) := by
  unfold pRest; rw [if_neg (by rw [h1]; simp), if_neg (by rw [h2]; simp), if_neg (by rw [h3]; simp), if_pos h]
theorem pRest_5 {t r : List UInt8} (h1 : tk [61] r = false) (h2 : tk [62, 61] r = false) (h3 : tk [60, 61] r = false) (h4 : tk [126, 61] r = false) : pRest t r = (.mk 0 t [] [] [], r, 3) := by
  unfold pRest; rw [if_neg (by rw [h1]; simp), if_neg (by rw [h2]; simp), if_neg (by rw [h3]; simp), if_neg (by rw [h4]; simp)]
theorem pItem_yes {r : List UInt8} (h : (pKind r).2.2 = 0) : pItem r = pRest (pKind r).1 (pKind r).2.1 := if_pos h
theorem pItem_no {r : List UInt8} (h : ¬ (pKind r).2.2 = 0) : pItem r = (.mk 0 (pKind r).1 [] [] [], (pKind r).2) := if_neg h
theorem tk_len2 {c d : UInt8} {r : List UInt8} (h : tk [c, d] r = true) : 2 ≤ r.length := by
  obtain ⟨t, e⟩ := tk2.1 h
  rw [e]; simp
theorem tk_len1 {c : UInt8} {r : List UInt8} (h : tk [c] r = true) : 1 ≤ r.length := by
  obtain ⟨t, e⟩ := tk1.1 h
  rw [e]; simp
theorem drop_more {s r : List UInt8} (h : r <:+ s) (k : Nat) (hk : k ≤ r.length) : s.drop (posI s r + (k : Int)).toNat = r.drop k := by
  have h1 := pos_bd h
  rw [show (posI s r + (k : Int)).toNat = (posI s r).toNat + k by omega, ← List.drop_drop, drop_pos h]
theorem pos_more {s r : List UInt8} (k : Nat) (hk : k ≤ r.length) (h : r <:+ s) : 0 ≤ posI s r + (k : Int) ∧ posI s r + (k : Int) ≤ s.length := by
  have h1 := pos_bd h
  have h2 := posI_def s r
  omega
end Go.Fi
set_option linter.unusedVariables false
namespace Go.Proofs.Ythjckklijlfghaa
open Go.Vk
attribute [local irreducible] HT HX RegS RegA RegM OpP OpC AltT
attribute [local irreducible] Dn.typB Dn.halfV Fi.pKind Fi.tk Fi.posI Fi.mkEq
set_option maxHeartbeats 4000000 in
theorem fpItem (g : Nat) (s : List UInt8) (a : Int) (ha : 0 ≤ a ∧ a ≤ s.length) (hsl : s.length ≤ 1000000) : CallsC Try.prog 33 [Is (pAt g 0)] [PX g s a 0] (fun _ => TAgg (Fi.cF (Fi.pItem (s.drop a.toNat)).1)) (fun _ => [PX g s (Fi.posI s (Fi.pItem (s.drop a.toNat)).2.1) (Fi.pItem (s.drop a.toNat)).2.2]) := by
  obtain ⟨n, rfl⟩ : ∃ n : Nat, a = (n : Int) := ⟨a.toNat, by omega⟩
  have c1 := fpKind g s (n : Int) ha hsl
  have c2 := fpFail
  rw [Int.toNat_natCast] at c1 ⊢
  have hsf := (Fi.pKind_suf (s.drop n)).trans (Fi.suf_drop s n)
  have hb := Fi.pos_bd hsf
  have hdr := Fi.drop_pos hsf
  have T : ∀ t : List UInt8, t.length ≤ 100 → CallsC Try.prog 30 [Is (pAt g 0), Is (str t)] [PX g s (Fi.posI s (Fi.pKind (s.drop n)).2.1) 0] (fun _ => Is (.bool (Fi.tk t (Fi.pKind (s.drop n)).2.1))) (fun _ => [PX g s (if Fi.tk t (Fi.pKind (s.drop n)).2.1 = true then Fi.posI s (Fi.pKind (s.drop n)).2.1 + t.length else Fi.posI s (Fi.pKind (s.drop n)).2.1) 0]) := fun t ht => by
    have := fpTakes g s t (Fi.posI s (Fi.pKind (s.drop n)).2.1) 0 hb ⟨hsl, ht⟩
    rwa [hdr] at this
  have V : ∀ k : Nat, k ≤ (Fi.pKind (s.drop n)).2.1.length → CallsC Try.prog 49 [Is (pAt g 0)] [PX g s (Fi.posI s (Fi.pKind (s.drop n)).2.1 + (k : Int)) 0] (fun _ => Is (str (Fi.pVal ((Fi.pKind (s.drop n)).2.1.drop k)).1)) (fun _ => [PX g s (Fi.posI s (Fi.pVal ((Fi.pKind (s.drop n)).2.1.drop k)).2.1) (Fi.pVal ((Fi.pKind (s.drop n)).2.1.drop k)).2.2]) := fun k hk => by
    have := fpValue g s (Fi.posI s (Fi.pKind (s.drop n)).2.1 + (k : Int)) (Fi.pos_more k hk hsf) hsl
    rwa [Fi.drop_more hsf k hk] at this
  by_cases hk : (Fi.pKind (s.drop n)).2.2 = 0
  · rw [Fi.pItem_yes hk]
    rw [hk] at c1
    have T1 := T [61] (by decide)
    have T2 := T [62, 61] (by decide)
    have T3 := T [60, 61] (by decide)
    have T4 := T [126, 61] (by decide)
    cases h1 : Fi.tk [61] (Fi.pKind (s.drop n)).2.1 with
    | true =>
      rw [Fi.pRest_1 h1]
      rw [h1, if_pos rfl] at T1
      have E1 := fun g2 => fpEqual g g2 (Fi.pKind (s.drop n)).1 s (Fi.posI s (Fi.pKind (s.drop n)).2.1 + ((1 : Nat) : Int)) (Fi.pos_more 1 (Fi.tk_len1 h1) hsf) hsl
      rw [Fi.drop_more hsf 1 (Fi.tk_len1 h1)] at E1
      clear T T2 T3 T4 V
      refine CallsC.of Try.call33 Try.func33 rfl Try.ntmps33 rfl fun w0 G0 S0 hs ho => ?_
      exact run trivial
    | false =>
      rw [h1, if_neg (by simp)] at T1
      cases h2 : Fi.tk [62, 61] (Fi.pKind (s.drop n)).2.1 with
      | true =>
        rw [Fi.pRest_2 h1 h2]
        rw [h2, if_pos rfl] at T2
        have V1 := V 2 (Fi.tk_len2 h2)
        clear T T3 T4 V
        refine CallsC.of Try.call33 Try.func33 rfl Try.ntmps33 rfl fun w0 G0 S0 hs ho => ?_
        refine run ?_
        and_intros <;> intros <;> rfl
      | false =>
        rw [h2, if_neg (by simp)] at T2
        cases h3 : Fi.tk [60, 61] (Fi.pKind (s.drop n)).2.1 with
        | true =>
          rw [Fi.pRest_3 h1 h2 h3]
          rw [h3, if_pos rfl] at T3
          have V1 := V 2 (Fi.tk_len2 h3)
          clear T T4 V
          refine CallsC.of Try.call33 Try.func33 rfl Try.ntmps33 rfl fun w0 G0 S0 hs ho => ?_
          refine run ?_
          and_intros <;> intros <;> rfl
        | false =>
          rw [h3, if_neg (by simp)] at T3
          cases h4 : Fi.tk [126, 61] (Fi.pKind (s.drop n)).2.1 with
          | true =>
            rw [Fi.pRest_4 h1 h2 h3 h4]
            rw [h4, if_pos rfl] at T4
            have V1 := V 2 (Fi.tk_len2 h4)
            clear T V
            refine CallsC.of Try.call33 Try.func33 rfl Try.ntmps33 rfl fun w0 G0 S0 hs ho => ?_
            refine run ?_
            and_intros <;> intros <;> rfl
          | false =>
            rw [Fi.pRest_5 h1 h2 h3 h4]
            rw [h4, if_neg (by simp)] at T4
            clear T V
            refine CallsC.of Try.call33 Try.func33 rfl Try.ntmps33 rfl fun w0 G0 S0 hs ho => ?_
            refine run ?_
            and_intros <;> intros <;> rfl
  · rw [Fi.pItem_no hk]
    clear T V
    refine CallsC.of Try.call33 Try.func33 rfl Try.ntmps33 rfl fun w0 G0 S0 hs ho => ?_
    refine run ?_
    and_intros <;> intros <;> rfl
end Go.Proofs.Ythjckklijlfghaa
set_option linter.unusedVariables false
namespace Go.Fi
open Go.Vk
theorem closeP_suf {x : Fil × St} {r : List UInt8} (h : x.2.1 <:+ r) : (closeP x).2.1 <:+ r := by
  unfold closeP
  split
  · split
    · exact (List.drop_suffix 1 _).trans h
    · exact h
  · exact h
theorem kLoop_suf {pf : List UInt8 → Fil × St} (h : ∀ r, (pf r).2.1 <:+ r) {k : Int} : ∀ (n : Nat) (acc : List Fil) (r : List UInt8), (kLoop pf k n acc r).2.1 <:+ r
  | 0, acc, r => List.suffix_refl _
  | n + 1, acc, r => by
    unfold kLoop
    split
    · exact (kLoop_suf h n _ _).trans (h r)
    · exact h r
theorem pRest_suf (t r : List UInt8) : (pRest t r).2.1 <:+ r := by
  unfold pRest
  split
  · exact (pEq_suf _).trans (List.drop_suffix 1 r)
  split
  · exact (pVal_suf _).trans (List.drop_suffix 2 r)
  split
  · exact (pVal_suf _).trans (List.drop_suffix 2 r)
  split
  · exact (pVal_suf _).trans (List.drop_suffix 2 r)
  · exact List.suffix_refl _
theorem pItem_suf (r : List UInt8) : (pItem r).2.1 <:+ r := by
  unfold pItem
  split
  · exact (pRest_suf _ _).trans (pKind_suf r)
  · exact pKind_suf r
theorem pBody_suf {pf : List UInt8 → Fil × St} (h : ∀ r, (pf r).2.1 <:+ r) (r : List UInt8) : (pBody pf r).2.1 <:+ r := by
  unfold pBody pKids
  split
  · exact (kLoop_suf h _ _ _).trans (List.drop_suffix 1 r)
  split
  · exact (kLoop_suf h _ _ _).trans (List.drop_suffix 1 r)
  split
  · exact (kLoop_suf h _ _ _).trans (List.drop_suffix 1 r)
  · exact pItem_suf r
theorem pFilt_suf : ∀ (d : Nat) (r : List UInt8), (pFilt d r).2.1 <:+ r
  | 0, r => by
    unfold pFilt
    split
    · exact List.drop_suffix 1 r
    · exact List.suffix_refl _
  | d + 1, r => by
    unfold pFilt
    split
    · exact closeP_suf ((pBody_suf (pFilt_suf d) _).trans (List.drop_suffix 1 r))
    · exact List.suffix_refl _
theorem pFilt_eats (d : Nat) (r : List UInt8) (h : (pFilt d r).2.2 = 0) : (pFilt d r).2.1.length < r.length := by
  cases d with
  | zero =>
    unfold pFilt at h
    split at h <;> simp at h
  | succ d =>
    unfold pFilt at h ⊢
    split at h
    · rename_i ht
      rw [if_pos ht]
      have h1 := (closeP_suf (pBody_suf (pFilt_suf d) (r.drop 1))).length_le
      have h2 := tk_len1 ht
      rw [List.length_drop] at h1
      omega
    · simp at h
theorem kLoop_fuel {pf : List UInt8 → Fil × St} (h : ∀ r, (pf r).2.2 = 0 → (pf r).2.1.length < r.length) {k : Int} : ∀ (n m : Nat) (acc : List Fil) (r : List UInt8), r.length < n → r.length < m → kLoop pf k n acc r = kLoop pf k m acc r
  | 0, m, acc, r, h1, _ => by omega
  | n + 1, 0, acc, r, _, h2 => by omega
  | n + 1, m + 1, acc, r, h1, h2 => by
    unfold kLoop
    split
    · rename_i hc
      have := h r hc.1
      exact kLoop_fuel h n m _ _ (by omega) (by omega)
    · rfl
def goK (k : Int) (r : List UInt8) : Bool := decide (k ≠ 2) && tk [40] r
/-- How the loop over kids stands: whether one more is wanted. -/
def kSt (pf : List UInt8 → Fil × St) (k : Int) (acc : List Fil) (r : List UInt8) (e : Int) (more : Bool) : List Fil × St := if more = true ∧ e = 0 then kLoop pf k (r.length + 1) acc r else (acc, r, e)
theorem kSt_go {pf : List UInt8 → Fil × St} (h : ∀ r, (pf r).2.2 = 0 → (pf r).2.1.length < r.length) {k : Int} {acc : List Fil} {r : List UInt8} : kSt pf k acc r 0 true = kSt pf k (acc ++ [(pf r).1]) (pf r).2.1 (pf r).2.2 (goK k (pf r).2.1) := by
  unfold kSt
  rw [if_pos ⟨rfl, rfl⟩]
  conv => lhs; unfold kLoop
  unfold goK
  by_cases h0 : (pf r).2.2 = 0
  · by_cases hk : k ≠ 2 ∧ tk [40] (pf r).2.1 = true
    · rw [if_pos ⟨h0, hk⟩, if_pos ⟨by simp [hk.1, hk.2], h0⟩]
      exact kLoop_fuel h _ _ _ _ (h r h0) (by omega)
    · rw [if_neg (fun x => hk x.2), if_neg (fun x => hk (by simpa using x.1))]
  · rw [if_neg (fun x => h0 x.1), if_neg (fun x => h0 x.2)]
theorem kSt_end {pf : List UInt8 → Fil × St} {k : Int} {acc : List Fil} {r : List UInt8} {e : Int} {more : Bool} (h : ¬ (more = true ∧ e = 0)) : kSt pf k acc r e more = (acc, r, e) := if_neg h
theorem tk_at {c : UInt8} {s : List UInt8} {i : Nat} : tk [c] (s.drop i) = (decide (i < s.length) && decide (s.getD i 0 = c)) := by
  by_cases h : i < s.length
  · rw [Dn.drop_cons h, tk1_cons, decide_eq_true h]; rfl
  · rw [List.drop_of_length_le (by omega), decide_eq_false h]; rfl
theorem pKids_def (pf : List UInt8 → Fil × St) (k : Int) (r : List UInt8) : pKids pf k r = (.mk k [] [] [] (kSt pf k [] r 0 true).1, (kSt pf k [] r 0 true).2) := by
  unfold pKids kSt
  rw [if_pos ⟨rfl, rfl⟩]
end Go.Fi
set_option linter.unusedVariables false
namespace Go.Proofs.Ythjckklijlfghaa
open Go.Vk
attribute [local irreducible] HT HX RegS RegA RegM OpP OpC AltT
attribute [local irreducible] Dn.typB Dn.halfV Fi.pKind Fi.tk Fi.posI Fi.mkEq Fi.pFilt Fi.kSt
/-- What a filter's contract is, so deep. -/
def FiltC (d : Nat) : Prop := ∀ (g : Nat) (s : List UInt8) (a : Int), 0 ≤ a ∧ a ≤ s.length → s.length ≤ 1000000 → CallsC Try.prog 20 [Is (pAt g 0), okI .i64 (16 - (d : Int))] [PX g s a 0] (fun _ => TAgg (Fi.cF (Fi.pFilt d (s.drop a.toNat)).1)) (fun _ => [PX g s (Fi.posI s (Fi.pFilt d (s.drop a.toNat)).2.1) (Fi.pFilt d (s.drop a.toNat)).2.2])
set_option maxHeartbeats 4000000 in
theorem fpKids (d : Nat) (hd : d < 16) (IH : FiltC d) (g : Nat) (s : List UInt8) (a k : Int) (ha : 0 ≤ a ∧ a ≤ s.length) (hsl : s.length ≤ 1000000) : CallsC Try.prog 32 [Is (pAt g 0), okI .i64 k, okI .i64 (16 - ((d + 1 : Nat) : Int))] [PX g s a 0] (fun _ => TAgg (Fi.cF (Fi.pKids (Fi.pFilt d) k (s.drop a.toNat)).1)) (fun _ => [PX g s (Fi.posI s (Fi.pKids (Fi.pFilt d) k (s.drop a.toNat)).2.1) (Fi.pKids (Fi.pFilt d) k (s.drop a.toNat)).2.2]) := by
  obtain ⟨n, rfl⟩ : ∃ n : Nat, a = (n : Int) := ⟨a.toNat, by omega⟩
  rw [Int.toNat_natCast, Fi.pKids_def, Fi.cF_open]
  dsimp only [Fi.Fil.kind, Fi.Fil.typ, Fi.Fil.val, Fi.Fil.subs, Fi.Fil.kids]
  have pl := Plan.mk' 5 [(0,3,[]),(2,3,[]),(3,3,[]),(4,3,[]),(8,3,[]),(1,2,[2]),(5,0,[2]),(6,3,[]),(7,0,[]),(9,0,[])]
  refine CallsC.of Try.call32 Try.func32 rfl Try.ntmps32 rfl fun w0 G0 S0 hs ho => ?_
  refine run ?_
  intro v1 v2
  refine HT.loopX (σ := List Fi.Fil × Nat × Int × Bool × Value) [0, 1, 2, 6, 7] (fun t => [(8, Is (.bool t.2.2.2.1))]) (fun t => [PX g s (t.2.1 : Int) t.2.2.1, ownP (blk v1) 25 [Is (.int .i64 0), Is (str []), Is (str []), Is (.slice none 0 0), Is (.slice none 0 0)], ownP (blk v2) 25 [okI .i64 k, Is (str []), Is (str []), Is (.slice none 0 0), TAnd (Is t.2.2.2.2) (TSl 5 Fi.cF t.1)], ownSl t.2.2.2.2 5 25]) (fun t => t.2.1 ≤ s.length ∧ (t.1.length ≤ t.2.1 + 1 ∧ (t.2.2.1 = 0 → t.1.length ≤ t.2.1)) ∧ Fi.kSt (Fi.pFilt d) k t.1 (s.drop t.2.1) t.2.2.1 t.2.2.2.1 = Fi.kSt (Fi.pFilt d) k [] (s.drop n) 0 true) (fun t => if t.2.2.2.1 = true ∧ t.2.2.1 = 0 then s.length - t.2.1 + 1 else 0) ([], n, 0, true, .slice none 0 0) ⟨by dsimp only; omega, by simp, rfl⟩ (run trivial) (run trivial) ?_
  rintro ⟨acc, i, e, more, v⟩ ⟨hi, hl, he⟩
  dsimp only at hi hl he ⊢
  by_cases hgo : more = true ∧ e = 0
  · obtain ⟨rfl, rfl⟩ := hgo
    have c1 := IH g s (i : Int) (by omega) hsl
    rw [Int.toNat_natCast, show (16 : Int) - (d : Int) = 16 - ((d + 1 : Nat) : Int) + 1 by omega] at c1
    have hsf := (Fi.pFilt_suf d (s.drop i)).trans (Fi.suf_drop s i)
    have hb := Fi.pos_bd hsf
    have hdr := Fi.drop_pos hsf
    have hz := Fi.kSt_go (acc := acc) (k := k) (r := s.drop i) (Fi.pFilt_eats d)
    rw [he] at hz
    have htk := Fi.tk_at (c := 40) (s := s) (i := (Fi.posI s (Fi.pFilt d (s.drop i)).2.1).toNat)
    rw [hdr] at htk
    have hle := (Fi.pFilt_suf d (s.drop i)).length_le
    have hpi := Fi.posI_def s (Fi.pFilt d (s.drop i)).2.1
    have hea := Fi.pFilt_eats d (s.drop i)
    rw [List.length_drop] at hle hea
    have hl2 := hl.2 rfl
    refine run ?_
    intro v' _
    refine HX.roundX (acc ++ [(Fi.pFilt d (s.drop i)).1], (Fi.posI s (Fi.pFilt d (s.drop i)).2.1).toNat, (Fi.pFilt d (s.drop i)).2.2, Fi.goK k (Fi.pFilt d (s.drop i)).2.1, v') ⟨⟨by dsimp only; omega, ⟨by dsimp only; rw [List.length_append, List.length_singleton]; omega, fun h0 => by have := hea h0; dsimp only; rw [List.length_append, List.length_singleton]; omega⟩, by dsimp only; rw [hdr]; exact hz.symm⟩, ?_⟩ rfl (run trivial) (run ?_)
    · dsimp only
      refine Nat.lt_of_lt_of_eq ?_ (if_pos ⟨rfl, rfl⟩).symm
      split
      · rename_i hc; have := hea hc.2; omega
      · omega
    · unfold Fi.goK
      rw [htk, Bool.and_assoc]
      congr 1
      congr 1
      · exact decide_eq_decide.2 (by omega)
      · exact decide_eq_decide.2 ⟨fun h => Fi.u8_eq (d := 40) h, fun h => by rw [h]; rfl⟩
  · have hend := Fi.kSt_end (pf := Fi.pFilt d) (k := k) (acc := acc) (r := s.drop i) hgo
    rw [he] at hend
    have hpos := Fi.pos_drop hi
    rw [hend]
    refine run ?_
    exact fun h => absurd h hgo
theorem filt_0 (r : List UInt8) : Fi.pFilt 0 r = if Fi.tk [40] r = true then (Fi.zeroF, r.drop 1, 10) else (Fi.zeroF, r, 3) := by unfold Fi.pFilt; rfl
theorem filt_S (d : Nat) (r : List UInt8) : Fi.pFilt (d + 1) r = if Fi.tk [40] r = true then Fi.closeP (Fi.pBody (Fi.pFilt d) (r.drop 1)) else (Fi.zeroF, r, 3) := by conv => lhs; unfold Fi.pFilt
theorem zeroCF : TAgg (Fi.cF Fi.zeroF) = TAgg [okI .i64 0, Is (str []), Is (str []), TSl 1 Fi.cS [], TSl 5 Fi.cFil []] := rfl
set_option maxHeartbeats 4000000 in
theorem fpFilt0 : FiltC 0 := by
  intro g s a ha hsl
  obtain ⟨n, rfl⟩ : ∃ n : Nat, a = (n : Int) := ⟨a.toNat, by omega⟩
  have c1 := fpTakes g s [40] (n : Int) 0 ha ⟨hsl, by decide⟩
  have c2 := fpFail
  rw [Int.toNat_natCast] at c1 ⊢
  rw [filt_0]
  cases hk : Fi.tk [40] (s.drop n) with
  | true =>
    have hlt := Fi.tk_lt hk
    have hp := Fi.pos_drop (s := s) (n := n + 1) (by omega)
    rw [hk, if_pos rfl] at c1
    rw [if_pos rfl, List.drop_drop]
    dsimp only
    rw [hp, zeroCF]
    refine CallsC.of Try.call20 Try.func20 rfl Try.ntmps20 rfl fun w0 G0 S0 hs ho => ?_
    refine run ?_
    intros; rfl
  | false =>
    have hp := Fi.pos_drop (s := s) (n := n) (by omega)
    rw [hk, if_neg (by simp)] at c1
    rw [if_neg (by simp)]
    dsimp only
    rw [hp, zeroCF]
    refine CallsC.of Try.call20 Try.func20 rfl Try.ntmps20 rfl fun w0 G0 S0 hs ho => ?_
    refine run ?_
    intros; rfl
set_option maxHeartbeats 4000000 in
theorem fpFiltS (d : Nat) (hd : d < 16) (IH : FiltC d) : FiltC (d + 1) := by
  intro g s a ha hsl
  obtain ⟨n, rfl⟩ : ∃ n : Nat, a = (n : Int) := ⟨a.toNat, by omega⟩
  have c1 := fpTakes g s [40] (n : Int) 0 ha ⟨hsl, by decide⟩
  have c2 := fpFail
  rw [Int.toNat_natCast] at c1 ⊢
  rw [filt_S]
  cases hk : Fi.tk [40] (s.drop n) with
  | true =>
    have hlt := Fi.tk_lt hk
    have hp := Fi.pos_drop (s := s) (n := n + 1) (by omega)
    rw [hk, if_pos rfl] at c1
    rw [if_pos rfl, List.drop_drop]
    rw [show (n : Int) + (([40] : List UInt8).length : Int) = (n : Int) + 1 from rfl] at c1
    have su := Sure.mk' [42, 43, 44]
    have e1 : s.drop ((n : Int) + 1).toNat = s.drop (n + 1) := by rw [show ((n : Int) + 1).toNat = n + 1 by omega]
    have T : ∀ c : UInt8, CallsC Try.prog 30 [Is (pAt g 0), Is (str [c])] [PX g s ((n : Int) + 1) 0] (fun _ => Is (.bool (Fi.tk [c] (s.drop (n + 1))))) (fun _ => [PX g s (if Fi.tk [c] (s.drop (n + 1)) = true then (n : Int) + 1 + 1 else (n : Int) + 1) 0]) := fun c => by
      have := fpTakes g s [c] ((n : Int) + 1) 0 (by omega) ⟨hsl, by simp⟩
      rw [e1] at this
      exact this
    have K : ∀ k : Int, n + 1 < s.length → CallsC Try.prog 32 [Is (pAt g 0), okI .i64 k, okI .i64 (16 - ((d + 1 : Nat) : Int))] [PX g s ((n : Int) + 1 + 1) 0] (fun _ => TAgg (Fi.cF (Fi.pKids (Fi.pFilt d) k ((s.drop (n + 1)).drop 1)).1)) (fun _ => [PX g s (Fi.posI s (Fi.pKids (Fi.pFilt d) k ((s.drop (n + 1)).drop 1)).2.1) (Fi.pKids (Fi.pFilt d) k ((s.drop (n + 1)).drop 1)).2.2]) := fun k hlt2 => by
      have := fpKids d hd IH g s ((n : Int) + 1 + 1) k (by omega) hsl
      rwa [show ((n : Int) + 1 + 1).toNat = n + 1 + 1 by omega, ← List.drop_drop] at this
    have hdd : (16 : Int) > 16 - ((d + 1 : Nat) : Int) := by omega
    unfold Fi.pBody
    have T1 := T 38
    have T2 := T 124
    have T3 := T 33
    have hsK : ∀ k : Int, (Fi.pKids (Fi.pFilt d) k ((s.drop (n + 1)).drop 1)).2.1 <:+ s := fun k => (Fi.kLoop_suf (Fi.pFilt_suf d) _ _ _).trans ((List.drop_suffix 1 _).trans (Fi.suf_drop s _))
    cases h1 : Fi.tk [38] (s.drop (n + 1)) with
    | true =>
      rw [h1, if_pos rfl] at T1
      have K0 := K 0 (Fi.tk_lt h1)
      have hsx := hsK 0
      clear T T2 T3 K hsK
      rw [if_pos rfl]
      generalize hx : Fi.pKids (Fi.pFilt d) 0 ((s.drop (n + 1)).drop 1) = x at K0 hsx ⊢
      have st := Stop.mk' 14
      refine CallsC.of Try.call20 Try.func20 rfl Try.ntmps20 rfl fun w0 G0 S0 hs ho => ?_
      refine run ?_
      intros
      refine HTs.mk ?_
      clear st K0 T1
      have C1 := fun h0 : x.2.2 = 0 => fpTakes g s [41] (Fi.posI s x.2.1) 0 (Fi.pos_bd hsx) ⟨hsl, by decide⟩
      rw [Fi.drop_pos hsx] at C1
      by_cases h0 : x.2.2 = 0
      · specialize C1 h0
        cases hc : Fi.tk [41] x.2.1 with
        | true =>
          have e : Fi.closeP x = (x.1, x.2.1.drop 1, 0) := by unfold Fi.closeP; rw [if_pos h0, if_pos hc]
          have hq : Fi.posI s (x.2.1.drop 1) = Fi.posI s x.2.1 + 1 := by
            have := Fi.tk_len1 hc
            rw [Fi.posI_def, Fi.posI_def, List.length_drop]; omega
          rw [e]
          dsimp only
          rw [hq, h0]
          rw [hc, if_pos rfl] at C1
          exact run trivial
        | false =>
          have e : Fi.closeP x = (x.1, x.2.1, 3) := by unfold Fi.closeP; rw [if_pos h0, if_neg (by rw [hc]; simp)]
          rw [e]
          dsimp only
          rw [h0]
          rw [hc, if_neg (by simp)] at C1
          refine run ?_
          intros; rfl
      · have e : Fi.closeP x = x := by unfold Fi.closeP; rw [if_neg h0]
        rw [e]
        clear C1
        exact run trivial
    | false =>
      rw [h1, if_neg (by simp)] at T1
      rw [if_neg (by simp)]
      cases h2 : Fi.tk [124] (s.drop (n + 1)) with
      | true =>
        rw [h2, if_pos rfl] at T2
        have K0 := K 1 (Fi.tk_lt h2)
        have hsx := hsK 1
        clear T T3 K hsK
        rw [if_pos rfl]
        generalize hx : Fi.pKids (Fi.pFilt d) 1 ((s.drop (n + 1)).drop 1) = x at K0 hsx ⊢
        have st := Stop.mk' 14
        refine CallsC.of Try.call20 Try.func20 rfl Try.ntmps20 rfl fun w0 G0 S0 hs ho => ?_
        refine run ?_
        intros
        refine HTs.mk ?_
        clear st K0 T1
        have C1 := fun h0 : x.2.2 = 0 => fpTakes g s [41] (Fi.posI s x.2.1) 0 (Fi.pos_bd hsx) ⟨hsl, by decide⟩
        rw [Fi.drop_pos hsx] at C1
        by_cases h0 : x.2.2 = 0
        · specialize C1 h0
          cases hc : Fi.tk [41] x.2.1 with
          | true =>
            have e : Fi.closeP x = (x.1, x.2.1.drop 1, 0) := by unfold Fi.closeP; rw [if_pos h0, if_pos hc]
            have hq : Fi.posI s (x.2.1.drop 1) = Fi.posI s x.2.1 + 1 := by
              have := Fi.tk_len1 hc
              rw [Fi.posI_def, Fi.posI_def, List.length_drop]; omega
            rw [e]
            dsimp only
            rw [hq, h0]
            rw [hc, if_pos rfl] at C1
            exact run trivial
          | false =>
            have e : Fi.closeP x = (x.1, x.2.1, 3) := by unfold Fi.closeP; rw [if_pos h0, if_neg (by rw [hc]; simp)]
            rw [e]
            dsimp only
            rw [h0]
            rw [hc, if_neg (by simp)] at C1
            refine run ?_
            intros; rfl
        · have e : Fi.closeP x = x := by unfold Fi.closeP; rw [if_neg h0]
          rw [e]
          clear C1
          exact run trivial
      | false =>
        rw [h2, if_neg (by simp)] at T2
        rw [if_neg (by simp)]
        cases h3 : Fi.tk [33] (s.drop (n + 1)) with
        | true =>
          rw [h3, if_pos rfl] at T3
          have K0 := K 2 (Fi.tk_lt h3)
          have hsx := hsK 2
          clear T K hsK
          rw [if_pos rfl]
          generalize hx : Fi.pKids (Fi.pFilt d) 2 ((s.drop (n + 1)).drop 1) = x at K0 hsx ⊢
          have st := Stop.mk' 14
          refine CallsC.of Try.call20 Try.func20 rfl Try.ntmps20 rfl fun w0 G0 S0 hs ho => ?_
          refine run ?_
          intros
          refine HTs.mk ?_
          clear st K0 T1
          have C1 := fun h0 : x.2.2 = 0 => fpTakes g s [41] (Fi.posI s x.2.1) 0 (Fi.pos_bd hsx) ⟨hsl, by decide⟩
          rw [Fi.drop_pos hsx] at C1
          by_cases h0 : x.2.2 = 0
          · specialize C1 h0
            cases hc : Fi.tk [41] x.2.1 with
            | true =>
              have e : Fi.closeP x = (x.1, x.2.1.drop 1, 0) := by unfold Fi.closeP; rw [if_pos h0, if_pos hc]
              have hq : Fi.posI s (x.2.1.drop 1) = Fi.posI s x.2.1 + 1 := by
                have := Fi.tk_len1 hc
                rw [Fi.posI_def, Fi.posI_def, List.length_drop]; omega
              rw [e]
              dsimp only
              rw [hq, h0]
              rw [hc, if_pos rfl] at C1
              exact run trivial
            | false =>
              have e : Fi.closeP x = (x.1, x.2.1, 3) := by unfold Fi.closeP; rw [if_pos h0, if_neg (by rw [hc]; simp)]
              rw [e]
              dsimp only
              rw [h0]
              rw [hc, if_neg (by simp)] at C1
              refine run ?_
              intros; rfl
          · have e : Fi.closeP x = x := by unfold Fi.closeP; rw [if_neg h0]
            rw [e]
            clear C1
            exact run trivial
        | false =>
          rw [h3, if_neg (by simp)] at T3
          rw [if_neg (by simp)]
          have K0 := fpItem g s ((n : Int) + 1) (by omega) hsl
          rw [e1] at K0
          have hsx := (Fi.pItem_suf (s.drop (n + 1))).trans (Fi.suf_drop s _)
          clear T K hsK
          generalize hx : Fi.pItem (s.drop (n + 1)) = x at K0 hsx ⊢
          have st := Stop.mk' 14
          refine CallsC.of Try.call20 Try.func20 rfl Try.ntmps20 rfl fun w0 G0 S0 hs ho => ?_
          refine run ?_
          intros
          refine HTs.mk ?_
          clear st K0 T1
          have C1 := fun h0 : x.2.2 = 0 => fpTakes g s [41] (Fi.posI s x.2.1) 0 (Fi.pos_bd hsx) ⟨hsl, by decide⟩
          rw [Fi.drop_pos hsx] at C1
          by_cases h0 : x.2.2 = 0
          · specialize C1 h0
            cases hc : Fi.tk [41] x.2.1 with
            | true =>
              have e : Fi.closeP x = (x.1, x.2.1.drop 1, 0) := by unfold Fi.closeP; rw [if_pos h0, if_pos hc]
              have hq : Fi.posI s (x.2.1.drop 1) = Fi.posI s x.2.1 + 1 := by
                have := Fi.tk_len1 hc
                rw [Fi.posI_def, Fi.posI_def, List.length_drop]; omega
              rw [e]
              dsimp only
              rw [hq, h0]
              rw [hc, if_pos rfl] at C1
              exact run trivial
            | false =>
              have e : Fi.closeP x = (x.1, x.2.1, 3) := by unfold Fi.closeP; rw [if_pos h0, if_neg (by rw [hc]; simp)]
              rw [e]
              dsimp only
              rw [h0]
              rw [hc, if_neg (by simp)] at C1
              refine run ?_
              intros; rfl
          · have e : Fi.closeP x = x := by unfold Fi.closeP; rw [if_neg h0]
            rw [e]
            clear C1
            exact run trivial
  | false =>
    have hp := Fi.pos_drop (s := s) (n := n) (by omega)
    rw [hk, if_neg (by simp)] at c1
    rw [if_neg (by simp)]
    dsimp only
    rw [hp, zeroCF]
    refine CallsC.of Try.call20 Try.func20 rfl Try.ntmps20 rfl fun w0 G0 S0 hs ho => ?_
    refine run ?_
    intros; rfl
theorem fpFilt : ∀ d : Nat, d ≤ 16 → FiltC d
  | 0, _ => fpFilt0
  | d + 1, h => fpFiltS d (by omega) (fpFilt d (by omega))
end Go.Proofs.Ythjckklijlfghaa
set_option linter.unusedVariables false
namespace Go.Fi
open Go.Vk
theorem pParse_err {s : List UInt8} (h : (pFilt 16 s).2.2 ≠ 0) : pParse s = (zeroF, (pFilt 16 s).2.2) := if_pos h
theorem pParse_more {s : List UInt8} (h : (pFilt 16 s).2.2 = 0) (h1 : (pFilt 16 s).2.1 ≠ []) : pParse s = (zeroF, 3) := by
  unfold pParse; rw [if_neg (by rw [h]; simp), if_pos h1]
theorem pParse_end {s : List UInt8} (h : (pFilt 16 s).2.2 = 0) (h1 : (pFilt 16 s).2.1 = []) : pParse s = if isF (pFilt 16 s).1 = true then ((pFilt 16 s).1, 0) else (zeroF, 5) := by
  unfold pParse; rw [if_neg (by rw [h]; simp), if_neg (by rw [h1]; simp)]
/-! ### what is parsed weighs no more than its text -/
theorem pVal_wt (r : List UInt8) : (pVal r).1.length + (pVal r).2.1.length ≤ r.length := by
  induction hn : r.length using Nat.strongRecOn generalizing r with
  | _ n ih =>
    unfold pVal
    cases r with
    | nil => simp
    | cons c t =>
      simp only [List.length_cons] at hn
      have h1 := pDig_le (pDig t 0).2.1 (pDig t 0).2.2
      have h2 := pDig_le t 0
      dsimp only
      split
      · simp; omega
      split
      · simp; omega
      split
      · split
        · have := ih _ (by omega) (pDig (pDig t 0).2.1 (pDig t 0).2.2).2.1 rfl
          simp only [List.length_cons]; omega
        · simp only [List.length_cons, List.length_nil]; omega
      · have := ih _ (by omega) t rfl
        simp only [List.length_cons]; omega
theorem subsW_append (l m : List (List UInt8)) : subsW (l ++ m) = subsW l + subsW m := by
  induction l with
  | nil => simp [subsW]
  | cons a r ih => simp only [List.cons_append, subsW, ih]; omega
theorem pStars_wt (r : List UInt8) (e : Int) : subsW (pStars r e).1 + (pStars r e).2.1.length ≤ r.length := by
  induction hn : r.length using Nat.strongRecOn generalizing r e with
  | _ n ih =>
    unfold pStars
    cases r with
    | nil => simp [subsW]
    | cons c t =>
      simp only [List.length_cons] at hn
      have h1 := pVal_wt t
      dsimp only
      split
      · have := ih _ (by omega) (pVal t).2.1 (pVal t).2.2 rfl
        simp only [subsW]; omega
      · simp [subsW]; omega
theorem pEq_wt (r : List UInt8) : subsW (pEq r).1 + (pEq r).2.1.length ≤ r.length + 1 := by
  have h1 := pStars_wt (pVal r).2.1 (pVal r).2.2
  have h2 := pVal_wt r
  unfold pEq
  simp only [subsW]; omega
theorem getD_wt (l : List (List UInt8)) : (l.getD 0 []).length ≤ subsW l := by
  cases l with
  | nil => simp [subsW]
  | cons a r => simp [subsW]; omega
theorem mkEq_wt (t : List UInt8) (l : List (List UInt8)) : wt (mkEq t l) ≤ 5 + t.length + subsW l := by
  have := getD_wt l
  unfold mkEq
  split
  · simp only [wt, subsW, wtL]; omega
  split
  · simp only [wt, subsW, wtL, List.length_nil]; omega
  · simp only [wt, wtL, List.length_nil]; omega
theorem pRest_wt (t r : List UInt8) : wt (pRest t r).1 + (pRest t r).2.1.length ≤ 6 + t.length + r.length := by
  have h0 := pEq_wt (r.drop 1)
  have h1 := pVal_wt (r.drop 2)
  have h2 := mkEq_wt t (pEq (r.drop 1)).1
  rw [List.length_drop] at h0 h1
  unfold pRest
  split
  · dsimp only; omega
  split
  · simp only [wt, subsW, wtL]; omega
  split
  · simp only [wt, subsW, wtL]; omega
  split
  · simp only [wt, subsW, wtL]; omega
  · simp only [wt, subsW, wtL, List.length_nil]; omega
theorem pItem_wt (r : List UInt8) : wt (pItem r).1 + (pItem r).2.1.length ≤ 6 + r.length := by
  have h0 : (pKind r).1.length + (pKind r).2.1.length = r.length := by
    unfold pKind
    rw [← List.length_append, List.takeWhile_append_dropWhile]
  unfold pItem
  split
  · have := pRest_wt (pKind r).1 (pKind r).2.1
    omega
  · simp only [wt, subsW, wtL, List.length_nil]; omega
theorem wtL_append (l m : List Fil) : wtL (l ++ m) = wtL l + wtL m := by
  induction l with
  | nil => simp [wtL]
  | cons a r ih => simp only [List.cons_append, wtL, ih]; omega
/-- What a parser leaves and makes, so deep. -/
def WtOk (d : Nat) (r : List UInt8) (x : Fil × St) : Prop := wt x.1 + 6 * x.2.1.length ≤ 6 * r.length + 6 * (d + 1) ∧ (x.2.2 = 0 → wt x.1 + 6 * x.2.1.length ≤ 6 * r.length)
theorem kLoop_wt {d : Nat} {k : Int} (h : ∀ r, WtOk d r (pFilt d r)) : ∀ (n : Nat) (acc : List Fil) (r : List UInt8), wtL (kLoop (pFilt d) k n acc r).1 + 6 * (kLoop (pFilt d) k n acc r).2.1.length ≤ wtL acc + 6 * r.length + 6 * (d + 1) ∧ ((kLoop (pFilt d) k n acc r).2.2 = 0 → wtL (kLoop (pFilt d) k n acc r).1 + 6 * (kLoop (pFilt d) k n acc r).2.1.length ≤ wtL acc + 6 * r.length)
  | 0, acc, r => by unfold kLoop; dsimp only; exact ⟨by omega, fun _ => by omega⟩
  | n + 1, acc, r => by
    have h1 := h r
    unfold WtOk at h1
    unfold kLoop
    split
    · rename_i hc
      have h2 := h1.2 hc.1
      have h3 := kLoop_wt (k := k) h n (acc ++ [(pFilt d r).1]) (pFilt d r).2.1
      rw [wtL_append] at h3
      simp only [wtL] at h3
      exact ⟨by omega, fun h0 => by have := h3.2 h0; omega⟩
    · simp only [wtL_append, wtL]
      exact ⟨by omega, fun h0 => by have := h1.2 h0; omega⟩
theorem pKids_wt {d : Nat} (h : ∀ r, WtOk d r (pFilt d r)) (k : Int) (r : List UInt8) : wt (pKids (pFilt d) k r).1 + 6 * (pKids (pFilt d) k r).2.1.length ≤ 5 + 6 * r.length + 6 * (d + 1) ∧ ((pKids (pFilt d) k r).2.2 = 0 → wt (pKids (pFilt d) k r).1 + 6 * (pKids (pFilt d) k r).2.1.length ≤ 5 + 6 * r.length) := by
  have h1 := kLoop_wt (k := k) h (r.length + 1) [] r
  unfold pKids
  simp only [wt, wtL, subsW, List.length_nil] at h1 ⊢
  exact ⟨by omega, fun h0 => by have := h1.2 h0; omega⟩
theorem pBody_wt {d : Nat} (h : ∀ r, WtOk d r (pFilt d r)) (r : List UInt8) : wt (pBody (pFilt d) r).1 + 6 * (pBody (pFilt d) r).2.1.length ≤ 6 * r.length + 6 * (d + 1) ∧ ((pBody (pFilt d) r).2.2 = 0 → wt (pBody (pFilt d) r).1 + 6 * (pBody (pFilt d) r).2.1.length ≤ 6 * r.length + 6) := by
  have hk : ∀ (c : UInt8) (k : Int), tk [c] r = true → wt (pKids (pFilt d) k (r.drop 1)).1 + 6 * (pKids (pFilt d) k (r.drop 1)).2.1.length ≤ 6 * r.length + 6 * (d + 1) ∧ ((pKids (pFilt d) k (r.drop 1)).2.2 = 0 → wt (pKids (pFilt d) k (r.drop 1)).1 + 6 * (pKids (pFilt d) k (r.drop 1)).2.1.length ≤ 6 * r.length + 6) := fun c k hc => by
    have h1 := pKids_wt h k (r.drop 1)
    have h2 := tk_len1 hc
    rw [List.length_drop] at h1
    exact ⟨by omega, fun h0 => by have := h1.2 h0; omega⟩
  unfold pBody
  split
  · rename_i hc; exact hk _ _ hc
  split
  · rename_i hc; exact hk _ _ hc
  split
  · rename_i hc; exact hk _ _ hc
  · have h1 := pItem_wt r
    have h2 := (pItem_suf r).length_le
    exact ⟨by omega, fun _ => by omega⟩
theorem pFilt_wt : ∀ (d : Nat) (r : List UInt8), WtOk d r (pFilt d r)
  | 0, r => by
    unfold pFilt WtOk
    split
    · simp only [zeroF, wt, wtL, subsW, List.length_nil, List.length_drop]
      exact ⟨by omega, fun h => by cases h⟩
    · simp only [zeroF, wt, wtL, subsW, List.length_nil]
      exact ⟨by omega, fun h => by cases h⟩
  | d + 1, r => by
    unfold pFilt
    split
    · rename_i hc
      have h1 := pBody_wt (pFilt_wt d) (r.drop 1)
      have h2 := tk_len1 hc
      rw [List.length_drop] at h1
      unfold closeP
      split
      · rename_i h0
        have h3 := h1.2 h0
        split
        · rename_i hc2
          have h4 := tk_len1 hc2
          unfold WtOk
          simp only [List.length_drop]
          exact ⟨by omega, fun _ => by omega⟩
        · unfold WtOk
          exact ⟨by dsimp only; omega, fun h => by cases h⟩
      · rename_i h0
        unfold WtOk
        exact ⟨by omega, fun h => absurd h h0⟩
    · unfold WtOk
      simp only [zeroF, wt, wtL, subsW, List.length_nil]
      exact ⟨by omega, fun h => by cases h⟩
theorem parse_wt (s : List UInt8) (h : s.length ≤ 100000) : wt (pFilt 16 s).1 ≤ 1000000 := by
  have := (pFilt_wt 16 s).1
  omega
theorem pParse_wt (s : List UInt8) (h : s.length ≤ 100000) : wt (pParse s).1 ≤ 1000000 := by
  have := parse_wt s h
  unfold pParse
  split
  · simp [zeroF, wt, wtL, subsW]
  split
  · simp [zeroF, wt, wtL, subsW]
  split
  · exact this
  · simp [zeroF, wt, wtL, subsW]
theorem pos_end {s r : List UInt8} (h : r <:+ s) : (posI s r < (s.length : Int)) ↔ r ≠ [] := by
  have := h.length_le
  unfold posI
  constructor
  · intro h1 h2; subst h2; simp at h1
  · intro h1
    have : 0 < r.length := List.length_pos_iff.2 h1
    omega
end Go.Fi
set_option linter.unusedVariables false
namespace Go.Proofs.Ythjckklijlfghaa
open Go.Vk
attribute [local irreducible] HT HX RegS RegA RegM OpP OpC AltT
attribute [local irreducible] Dn.typB Dn.halfV Fi.tk Fi.posI Fi.pFilt Fi.isF
set_option maxHeartbeats 2000000 in
theorem fpParse (s : List UInt8) (hs : s.length ≤ 100000) : CFn Try.prog 8 [Is (str s)] (TTup [TAgg (Fi.cF (Fi.pParse s).1), okI .i64 (Fi.pParse s).2]) := by
  have c1 : ∀ g, CallsC Try.prog 20 [Is (pAt g 0), okI .i64 0] [PX g s 0 0] (fun _ => TAgg (Fi.cF (Fi.pFilt 16 s).1)) (fun _ => [PX g s (Fi.posI s (Fi.pFilt 16 s).2.1) (Fi.pFilt 16 s).2.2]) := fun g => fpFilt 16 (Nat.le_refl _) g s 0 (by omega) (by omega)
  have c2 := fpIs (Fi.pFilt 16 s).1 (Fi.parse_wt s hs)
  have hsf := Fi.pFilt_suf 16 s
  have hpe := Fi.pos_end hsf
  have mu := Mut.mk' [8]
  have pl := Plan.mk' 4 [(0,3,[]),(1,3,[]),(2,3,[]),(3,3,[]),(4,2,[1]),(5,0,[1]),(6,3,[])]
  generalize hx : Fi.pFilt 16 s = x at c1 c2 hsf hpe
  by_cases h0 : x.2.2 = 0
  · by_cases h1 : x.2.1 = []
    · rw [Fi.pParse_end (by rw [hx]; exact h0) (by rw [hx]; exact h1), hx]
      have hn : ¬ Fi.posI s x.2.1 < (s.length : Int) := fun h => hpe.1 h h1
      cases hi : Fi.isF x.1 with
      | true =>
        rw [if_pos rfl]
        rw [hi] at c2
        refine CallsC.of Try.call8 Try.func8 rfl Try.ntmps8 rfl fun w0 G0 S0 hs ho => ?_
        exact run trivial
      | false =>
        rw [if_neg (by simp)]
        rw [hi] at c2
        refine CallsC.of Try.call8 Try.func8 rfl Try.ntmps8 rfl fun w0 G0 S0 hs ho => ?_
        (refine run ?_; (and_intros <;> intros <;> first | rfl | assumption | omega))
    · rw [Fi.pParse_more (by rw [hx]; exact h0) (by rw [hx]; exact h1)]
      have hn : Fi.posI s x.2.1 < (s.length : Int) := hpe.2 h1
      clear c2
      refine CallsC.of Try.call8 Try.func8 rfl Try.ntmps8 rfl fun w0 G0 S0 hs ho => ?_
      (refine run ?_; (and_intros <;> intros <;> first | rfl | assumption | omega))
  · rw [Fi.pParse_err (by rw [hx]; exact h0), hx]
    clear c2
    refine CallsC.of Try.call8 Try.func8 rfl Try.ntmps8 rfl fun w0 G0 S0 hs ho => ?_
    (refine run ?_; (and_intros <;> intros <;> first | rfl | assumption | omega))
end Go.Proofs.Ythjckklijlfghaa
set_option linter.unusedVariables false
namespace Go.Fi
open Go.Vk
instance : DecidableEq Fil := fun a b => decidable_of_iff (sameF a b = true) (sameF_iff a b)
theorem fil_eq (k k' : Int) (t t' v v' : List UInt8) (s s' : List (List UInt8)) (ks ks' : List Fil) : decide (Fil.mk k t v s ks = Fil.mk k' t' v' s' ks') = (decide (k = k') && decide (t = t') && decide (v = v') && decide (s = s') && decide (ks = ks')) := by
  rw [Bool.eq_iff_iff]
  simp only [decide_eq_true_eq, Bool.and_eq_true, Fil.mk.injEq]
  constructor
  · rintro ⟨h1, h2, h3, h4, h5⟩; exact ⟨⟨⟨⟨h1, h2⟩, h3⟩, h4⟩, h5⟩
  · rintro ⟨⟨⟨⟨h1, h2⟩, h3⟩, h4⟩, h5⟩; exact ⟨h1, h2, h3, h4, h5⟩
theorem wtk : ∀ {l : List Fil} {f : Fil}, f ∈ l → wt f ≤ wtL l
  | [], f, h => by simp at h
  | g :: r, f, h => by
    rw [wtL]
    rcases List.mem_cons.1 h with rfl | h
    · omega
    · have := wtk h; omega
theorem wtl : ∀ l : List Fil, l.length ≤ wtL l
  | [] => Nat.le_refl _
  | f :: r => by
    have := wtl r
    rw [wtL]
    cases f with
    | mk k t v s ks => rw [wt]; simp only [List.length_cons]; omega
theorem sbl : ∀ l : List (List UInt8), l.length ≤ subsW l
  | [] => Nat.le_refl _
  | s :: r => by
    have := sbl r
    rw [subsW]; simp only [List.length_cons]; omega
end Go.Fi
set_option linter.unusedVariables false
namespace Go.Proofs.Ythjckklijlfghaa
open Go.Vk
attribute [local irreducible] HT HX RegS RegA RegM OpP OpC AltT
attribute [local irreducible] Fi.nodes Fi.nodesL Fi.sameF
theorem txtEq16 (l m : List (List UInt8)) (hl : l.length ≤ 1152921504606846976) : CFn Try.prog 28 [TSl 1 Fi.cS l, TSl 1 Fi.cS m] (Is (.bool (decide (l = m)))) := by
  refine CallsC.of Try.call28 Try.func28 rfl Try.ntmps28 rfl fun w0 G0 S0 hs ho => ?_
  refine run ?_
  refine ⟨?_, ?_⟩
  · intro h
    exact (decide_eq_false (fun e => h (by rw [e]))).symm
  intro hc
  refine HT.loopX (σ := Nat) [0, 1, 12] (fun i => [(13, okI .i64 (i : Int))]) (fun _ => []) (fun i => i ≤ l.length ∧ l.take i = m.take i) (fun i => l.length - i) 0 ⟨Nat.zero_le _, rfl⟩ (run trivial) (run trivial) ?_
  rintro i ⟨hi, he⟩
  have hc' : l.length = m.length := by
    have : (l.length : Int) = (m.length : Int) := Decidable.not_not.1 hc
    omega
  refine run ?_
  and_intros
  all_goals intros
  · rename_i h1 h2
    exact (decide_eq_false (fun e => h2 (by rw [e]))).symm
  · rename_i h1 h2
    exact HX.roundX (i + 1) ⟨⟨by omega, En.take_ext (by omega) hc' he (Decidable.not_not.1 h2)⟩, by omega⟩ rfl (run trivial) (run trivial)
  · rename_i h1
    exact (decide_eq_true (En.take_all h1 hc' he)).symm
theorem filEq {f : FuncId} {Cs : List Ty} (l m : List Fi.Fil) (hl : l.length ≤ 1152921504606846976) (cf : ∀ a ∈ l, ∀ b, CFn Try.prog f ([TAgg (Fi.cF a), TAgg (Fi.cF b)] ++ Cs) (Is (.bool (decide (a = b))))) : CFn Try.prog 29 [TSl 5 Fi.cF l, TSl 5 Fi.cF m, TFn f Cs] (Is (.bool (decide (l = m)))) := by
  refine CallsC.of Try.call29 Try.func29 rfl Try.ntmps29 rfl fun w0 G0 S0 hs ho => ?_
  refine run ?_
  refine ⟨?_, ?_⟩
  · intro h
    exact (decide_eq_false (fun e => h (by rw [e]))).symm
  intro hc
  refine HT.loopX (σ := Nat) [1, 2, 15, 16] (fun i => [(17, okI .i64 (i : Int))]) (fun _ => []) (fun i => i ≤ l.length ∧ l.take i = m.take i) (fun i => l.length - i) 0 ⟨Nat.zero_le _, rfl⟩ (run trivial) (run trivial) ?_
  rintro i ⟨hi, he⟩
  have hc' : l.length = m.length := by
    have : (l.length : Int) = (m.length : Int) := Decidable.not_not.1 hc
    omega
  have cf' := fun (hlt : i < l.length) => cf (l.getD i default) (En.getD_mem hlt) (m.getD i default)
  clear cf
  refine run ?_
  refine ⟨fun _ _ h1 h2 => ?_, fun _ _ h1 h2 => ?_, fun h1 => ?_⟩
  · exact (decide_eq_false (fun e => h2 (by rw [e]))).symm
  · exact HX.roundX (i + 1) ⟨⟨by omega, En.take_ext (by omega) hc' he h2⟩, by omega⟩ rfl (run trivial) (run trivial)
  · exact (decide_eq_true (En.take_all h1 hc' he)).symm
theorem fpSameS (k k' : Int) (t t' v v' : List UInt8) (s s' : List (List UInt8)) (ks ks' : List Fi.Fil) (hs1 : s.length ≤ 1000000) (hk1 : ks.length ≤ 1000000) (IH : ∀ a ∈ ks, ∀ b, CFn Try.prog 19 [TAgg (Fi.cF a), TAgg (Fi.cF b)] (Is (.bool (decide (a = b))))) : CFn Try.prog 19 [TAgg (Fi.cF (.mk k t v s ks)), TAgg (Fi.cF (.mk k' t' v' s' ks'))] (Is (.bool (decide (Fi.Fil.mk k t v s ks = Fi.Fil.mk k' t' v' s' ks')))) := by
  have c1 := txtEq16 s s' (by omega)
  have c2 := filEq (f := 19) (Cs := []) ks ks' (by omega) IH
  clear IH
  rw [Fi.fil_eq, Fi.cF_open (.mk k t v s ks), Fi.cF_open (.mk k' t' v' s' ks')]
  dsimp only [Fi.Fil.kind, Fi.Fil.typ, Fi.Fil.val, Fi.Fil.subs, Fi.Fil.kids]
  refine CallsC.of Try.call19 Try.func19 rfl Try.ntmps19 rfl fun w0 G0 S0 hs ho => ?_
  exact run trivial
theorem fpSame : ∀ (N : Nat) (f : Fi.Fil), Fi.nodes f ≤ N → Fi.wt f ≤ 1000000 → ∀ b : Fi.Fil, CFn Try.prog 19 [TAgg (Fi.cF f), TAgg (Fi.cF b)] (Is (.bool (decide (f = b))))
  | 0, .mk k t v s ks, h, _, _ => by unfold Fi.nodes at h; omega
  | N + 1, .mk k t v s ks, h, hw, .mk k' t' v' s' ks' => by
    have e : Fi.nodes (.mk k t v s ks) = 1 + Fi.nodesL ks := by unfold Fi.nodes; rfl
    rw [e] at h
    rw [Fi.wt] at hw
    have w1 := Fi.wtl ks
    have w2 := Fi.sbl s
    exact fpSameS k k' t t' v v' s s' ks ks' (by omega) (by omega) (fun a ha b => fpSame N a (by have := Fi.kid_lt ha; omega) (by have := Fi.wtk ha; omega) b)
end Go.Proofs.Ythjckklijlfghaa
set_option linter.unusedVariables false
set_option linter.unusedVariables false
namespace Go.Proofs.Ythjckklijlfghaa
open Go.Vk
attribute [local irreducible] HT HX RegS RegA RegM OpP OpC AltT
attribute [local irreducible] Fi.nodes Fi.nodesL Fi.sameF
theorem rfTexts (l m : List (List UInt8)) (hl : l.length ≤ 1000000) : CFn Try.prog 23 [TSl 1 Fi.cS l, TSl 1 Fi.cS m] (Is (.bool (decide (l = m)))) := by
  refine CallsC.of Try.call23 Try.func23 rfl Try.ntmps23 rfl fun w0 G0 S0 hs ho => ?_
  refine run ?_
  refine ⟨?_, ?_⟩
  · intro h
    exact (decide_eq_false (fun e => h (by rw [e]))).symm
  intro hc
  refine HT.loopX (σ := Nat) [0, 1] (fun i => [(5, okI .i64 (i : Int))]) (fun _ => []) (fun i => i ≤ l.length ∧ l.take i = m.take i) (fun i => l.length - i) 0 ⟨Nat.zero_le _, rfl⟩ (run trivial) (run trivial) ?_
  rintro i ⟨hi, he⟩
  have hc' : l.length = m.length := by
    have : (l.length : Int) = (m.length : Int) := Decidable.not_not.1 hc
    omega
  refine run ?_
  and_intros
  all_goals intros
  · rename_i h1 h2
    exact (decide_eq_false (fun e => h2 (by rw [e]))).symm
  · rename_i h1 h2
    exact HX.roundX (i + 1) ⟨⟨by omega, En.take_ext (by omega) hc' he (Decidable.not_not.1 h2)⟩, by omega⟩ rfl (run trivial) (run trivial)
  · rename_i h1
    exact (decide_eq_true (En.take_all h1 hc' he)).symm
set_option maxHeartbeats 2000000 in
theorem rfSameS (k k' : Int) (t t' v v' : List UInt8) (s s' : List (List UInt8)) (ks ks' : List Fi.Fil) (hs1 : s.length ≤ 1000000) (hk1 : ks.length ≤ 1000000) (IH : ∀ a ∈ ks, ∀ b, CFn Try.prog 10 [TAgg (Fi.cF a), TAgg (Fi.cF b)] (Is (.bool (decide (a = b))))) : CFn Try.prog 10 [TAgg (Fi.cF (.mk k t v s ks)), TAgg (Fi.cF (.mk k' t' v' s' ks'))] (Is (.bool (decide (Fi.Fil.mk k t v s ks = Fi.Fil.mk k' t' v' s' ks')))) := by
  have c1 := rfTexts s s' hs1
  rw [Fi.fil_eq, Fi.cF_open (.mk k t v s ks), Fi.cF_open (.mk k' t' v' s' ks')]
  dsimp only [Fi.Fil.kind, Fi.Fil.typ, Fi.Fil.val, Fi.Fil.subs, Fi.Fil.kids]
  cases hB : (decide (k = k') && decide (t = t') && decide (v = v') && decide (s = s') && decide (ks.length = ks'.length)) with
  | false =>
    have hf : (decide (k = k') && decide (t = t') && decide (v = v') && decide (s = s') && decide (ks = ks')) = false := by
      rw [Bool.eq_false_iff] at hB ⊢
      intro h
      apply hB
      simp only [Bool.and_eq_true, decide_eq_true_eq] at h ⊢
      exact ⟨h.1, by rw [h.2]⟩
    rw [hf]
    clear IH hf
    refine CallsC.of Try.call10 Try.func10 rfl Try.ntmps10 rfl fun w0 G0 S0 hs ho => ?_
    refine run ?_
    intros
    exfalso
    grind
  | true =>
    simp only [Bool.and_eq_true, decide_eq_true_eq] at hB
    obtain ⟨⟨⟨⟨rfl, rfl⟩, rfl⟩, rfl⟩, hc'⟩ := hB
    rw [decide_eq_true rfl, decide_eq_true rfl, decide_eq_true rfl, decide_eq_true rfl]
    rw [Bool.and_self, Bool.and_self, Bool.and_self, Bool.true_and]
    rw [decide_eq_true rfl] at c1
    refine CallsC.of Try.call10 Try.func10 rfl Try.ntmps10 rfl fun w0 G0 S0 hs ho => ?_
    refine run ?_
    refine ⟨fun h => ?_, fun _ => ?_⟩
    · exfalso; grind
    refine HT.loopX (σ := Nat) [2, 3] (fun i => [(5, okI .i64 (i : Int))]) (fun _ => []) (fun i => i ≤ ks.length ∧ ks.take i = ks'.take i) (fun i => ks.length - i) 0 ⟨Nat.zero_le _, rfl⟩ (run trivial) (run trivial) ?_
    rintro i ⟨hi, he⟩
    have cf' := fun (hlt : i < ks.length) => IH (ks.getD i default) (En.getD_mem hlt) (ks'.getD i default)
    clear IH
    refine run ?_
    refine ⟨fun _ h2 => ?_, fun _ h2 => ?_, fun h1 => ?_⟩
    · exact (decide_eq_false (fun e => h2 (by rw [e]))).symm
    · exact HX.roundX (i + 1) ⟨⟨by omega, En.take_ext (by omega) hc' he h2⟩, by omega⟩ rfl (run trivial) (run trivial)
    · exact (decide_eq_true (En.take_all h1 hc' he)).symm
theorem rfSame : ∀ (N : Nat) (f : Fi.Fil), Fi.nodes f ≤ N → Fi.wt f ≤ 1000000 → ∀ b : Fi.Fil, CFn Try.prog 10 [TAgg (Fi.cF f), TAgg (Fi.cF b)] (Is (.bool (decide (f = b))))
  | 0, .mk k t v s ks, h, _, _ => by unfold Fi.nodes at h; omega
  | N + 1, .mk k t v s ks, h, hw, .mk k' t' v' s' ks' => by
    have e : Fi.nodes (.mk k t v s ks) = 1 + Fi.nodesL ks := by unfold Fi.nodes; rfl
    rw [e] at h
    rw [Fi.wt] at hw
    have w1 := Fi.wtl ks
    have w2 := Fi.sbl s
    exact rfSameS k k' t t' v v' s s' ks ks' (by omega) (by omega) (fun a ha b => rfSame N a (by have := Fi.kid_lt ha; omega) (by have := Fi.wtk ha; omega) b)
end Go.Proofs.Ythjckklijlfghaa
set_option linter.unusedVariables false
namespace Go.Fi
open Go.Vk
def fA : Fil := .mk 4 [99, 110] [] [[97], [98]] []
def fP : Fil := .mk 7 [115, 110] [] [] []
def fN : Fil := .mk 2 [] [] [] [fP]
def fK : Fil := .mk 0 [] [] [] [fA, fN]
def tK : List UInt8 := [40, 38, 40, 99, 110, 61, 97, 42, 98, 41, 40, 33, 40, 115, 110, 61, 42, 41, 41, 41]
theorem fK_pr : prF fK = tK := by decide +kernel
theorem fK_is : isF fK = true := by decide +kernel
theorem fK_parse : pParse tK = (fK, 0) := by rw [← fK_pr]; exact parse_back fK_is
theorem fK_wt : wt fK ≤ 1000000 := by decide +kernel
theorem fK_nodes : nodes fK = 4 := by decide +kernel
end Go.Fi
set_option linter.unusedVariables false
namespace Go.Proofs.Ythjckklijlfghaa
open Go.Vk
attribute [local irreducible] HT HX RegS RegA RegM OpP OpC AltT
attribute [local irreducible] Fi.isF Fi.prF Fi.pParse Fi.nodes Fi.wt
theorem fpPrint (f : Fi.Fil) (hw : Fi.wt f ≤ 1000000) (hi : Fi.isF f = true) : CFn Try.prog 14 [TAgg (Fi.cF f)] (Is (str (Fi.prF f))) := by
  have c1 := fpIs f hw
  rw [hi] at c1
  have c2 := fpPrintN (Fi.nodes f) f (Nat.le_refl _) hw
  refine CallsC.of Try.call14 Try.func14 rfl Try.ntmps14 rfl fun w0 G0 S0 hs ho => ?_
  exact run trivial
theorem lwKnown16 : CFn Try.prog 11 [] (Is (.bool true)) := by
  have c1 := fpParse Fi.tK (by decide)
  rw [Fi.fK_parse] at c1
  have c2 := fpPrint Fi.fK Fi.fK_wt Fi.fK_is
  rw [Fi.fK_pr] at c2
  have c3 := fpNodes (Fi.nodes Fi.fK) Fi.fK (Nat.le_refl _) (by rw [Fi.fK_nodes]; decide)
  rw [Fi.fK_nodes] at c3
  unfold Fi.tK at c1 c2
  have hk : Fi.fK.kids.length = 2 := rfl
  dsimp only at c1
  rw [Fi.cF_open] at c1 c2 c3
  have su := Sure.mk' [10, 11, 12, 13, 16, 17, 18, 21, 22, 23]
  refine CallsC.of Try.call11 Try.func11 rfl Try.ntmps11 rfl fun w0 G0 S0 hs ho => ?_
  exact run trivial
end Go.Proofs.Ythjckklijlfghaa
