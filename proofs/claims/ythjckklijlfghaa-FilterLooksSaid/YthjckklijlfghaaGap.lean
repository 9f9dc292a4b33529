/-
  The contracts of the document's parser of filters: sign, bad, typ.
  The contract of the document's value: pieces that are written in place.
  The contract of the document's item.
  The contracts of the document's parser of filters: filters within filters.
-/
import Derived.Test.YthjckklijlfghaaGak
import Derived.Test.YthjckklijlfghaaGal
import Derived.Test.YthjckklijlfghaaGao
set_option linter.unusedSimpArgs false
set_option linter.unusedVariables false
set_option linter.unusedVariables false
namespace Go.Fi
open Go.Vk
open Go.Dn (typB typC halfV)
theorem typ_tab : ∀ i : Fin 256, typB [97, UInt8.ofNat i.val] = typC (UInt8.ofNat i.val) := by decide +kernel
theorem typ_one (c : UInt8) : typB [97, c] = typC c := by
  have h := typ_tab ⟨c.toNat, c.toNat_lt⟩
  have e : UInt8.ofNat c.toNat = c := by simp
  dsimp only at h
  rwa [e] at h
theorem take_one {s : List UInt8} {i : Nat} (h : i < s.length) : (s.take (i + 1)).drop i = [s.getD i 0] := by
  rw [List.drop_take, show i + 1 - i = 1 by omega, Dn.drop_cons h]; rfl
theorem rTyp_bad {r : List UInt8} (h : typB (r.takeWhile typC) = false) : rTyp r = ([], 0, r.dropWhile typC) := by
  unfold rTyp; rw [if_neg (by rw [h]; simp)]
theorem rTyp_no {r : List UInt8} (h : typB (r.takeWhile typC) = true) (h1 : tk [61] (signT (r.dropWhile typC)) = false) : rTyp r = ([], 0, signT (r.dropWhile typC)) := by
  unfold rTyp; rw [if_pos h, if_neg (by rw [h1]; simp)]
theorem rTyp_yes {r : List UInt8} (h : typB (r.takeWhile typC) = true) (h1 : tk [61] (signT (r.dropWhile typC)) = true) : rTyp r = (r.takeWhile typC, signC (r.dropWhile typC), (signT (r.dropWhile typC)).drop 1) := by
  unfold rTyp; rw [if_pos h, if_pos h1]
theorem sign_62 {r : List UInt8} (h : tk [62] r = true) : signC r = 62 ∧ signT r = r.drop 1 := by
  unfold signC signT; rw [if_pos h, if_pos (.inl h)]; exact ⟨rfl, rfl⟩
theorem sign_60 {r : List UInt8} (h1 : tk [62] r = false) (h : tk [60] r = true) : signC r = 60 ∧ signT r = r.drop 1 := by
  unfold signC signT; rw [if_neg (by rw [h1]; simp), if_pos h, if_pos (.inr (.inl h))]; exact ⟨rfl, rfl⟩
theorem sign_126 {r : List UInt8} (h1 : tk [62] r = false) (h2 : tk [60] r = false) (h : tk [126] r = true) : signC r = 126 ∧ signT r = r.drop 1 := by
  unfold signC signT; rw [if_neg (by rw [h1]; simp), if_neg (by rw [h2]; simp), if_pos h, if_pos (.inr (.inr h))]; exact ⟨rfl, rfl⟩
theorem sign_61 {r : List UInt8} (h1 : tk [62] r = false) (h2 : tk [60] r = false) (h3 : tk [126] r = false) : signC r = 61 ∧ signT r = r := by
  unfold signC signT; rw [if_neg (by rw [h1]; simp), if_neg (by rw [h2]; simp), if_neg (by rw [h3]; simp), if_neg (by rw [h1, h2, h3]; simp)]; exact ⟨rfl, rfl⟩
theorem rTyp_suf (r : List UInt8) : (rTyp r).2.2 <:+ r := by
  have h0 : r.dropWhile typC <:+ r := List.dropWhile_suffix _
  have h1 : signT (r.dropWhile typC) <:+ r := by
    unfold signT
    split
    · exact (List.drop_suffix 1 _).trans h0
    · exact h0
  unfold rTyp
  split
  · split
    · exact (List.drop_suffix 1 _).trans h1
    · exact h1
  · exact h0
end Go.Fi
set_option linter.unusedVariables false
namespace Go.Proofs.Ythjckklijlfghaa
open Go.Vk
attribute [local irreducible] HT HX RegS RegA RegM OpP OpC AltT
attribute [local irreducible] Dn.typB Dn.typC Dn.halfV Fi.tk Fi.posI
abbrev RX16 (g : Nat) (s : List UInt8) (a e : Int) : Res := ownP g 45 [Is (str s), okI .i64 a, okI .i64 e]
theorem rdSign (g : Nat) (s : List UInt8) (n : Nat) (e : Int) (c : UInt8) (hn : n ≤ s.length) (hs : s.length ≤ 1000000) : CallsC Try.prog 34 [Is (pAt g 0), okI .u8 (c.toNat : Int)] [RX16 g s (n : Int) e] (fun _ => Is (.bool (Fi.tk [c] (s.drop n)))) (fun _ => [RX16 g s (if Fi.tk [c] (s.drop n) = true then (n : Int) + 1 else (n : Int)) e]) := by
  have hb : decide (((s.getD n 0).toNat : Int) = (c.toNat : Int)) = decide (s.getD n 0 = c) := decide_eq_decide.2 ⟨fun h => Fi.u8_eq h, fun h => by rw [h]⟩
  rw [Fi.tk_at]
  by_cases h1 : n < s.length
  · rw [decide_eq_true h1, Bool.true_and, ← hb]
    by_cases h2 : ((s.getD n 0).toNat : Int) = (c.toNat : Int)
    · rw [decide_eq_true h2, if_pos rfl]
      refine CallsC.of Try.call34 Try.func34 rfl Try.ntmps34 rfl fun w0 G0 S0 hs ho => ?_
      exact run trivial
    · rw [decide_eq_false h2, if_neg (by simp)]
      refine CallsC.of Try.call34 Try.func34 rfl Try.ntmps34 rfl fun w0 G0 S0 hs ho => ?_
      exact run trivial
  · rw [decide_eq_false h1, Bool.false_and, if_neg (by simp)]
    refine CallsC.of Try.call34 Try.func34 rfl Try.ntmps34 rfl fun w0 G0 S0 hs ho => ?_
    exact run trivial
theorem rdBad (g : Nat) (s : List UInt8) (a e c : Int) : CallsC Try.prog 22 [Is (pAt g 0), okI .i64 c] [RX16 g s a e] (fun _ => TAgg (Fi.cF Fi.zeroF)) (fun _ => [RX16 g s a (Fi.failE e c)]) := by
  rw [zeroCF]
  by_cases h : e = 0
  · have : Fi.failE e c = c := if_pos h
    rw [this]
    refine CallsC.of Try.call22 Try.func22 rfl Try.ntmps22 rfl fun w0 G0 S0 hs ho => ?_
    exact run trivial
  · have : Fi.failE e c = e := if_neg h
    rw [this]
    refine CallsC.of Try.call22 Try.func22 rfl Try.ntmps22 rfl fun w0 G0 S0 hs ho => ?_
    exact run trivial
set_option maxHeartbeats 4000000 in
theorem rdTyp (g : Nat) (s : List UInt8) (n : Nat) (e : Int) (hn : n ≤ s.length) (hsl : s.length ≤ 1000000) : CallsC Try.prog 50 [Is (pAt g 0)] [RX16 g s (n : Int) e] (fun _ => TTup [Is (str (Fi.rTyp (s.drop n)).1), okI .u8 ((Fi.rTyp (s.drop n)).2.1.toNat : Int)]) (fun _ => [RX16 g s (Fi.posI s (Fi.rTyp (s.drop n)).2.2) e]) := by
  have c1 := rfType
  refine CallsC.of Try.call50 Try.func50 rfl Try.ntmps50 rfl fun w0 G0 S0 hs ho => ?_
  refine run ?_
  refine HT.loopX (σ := Nat) [0, 2, 3, 4] (fun i => []) (fun i => [RX16 g s (i : Int) e]) (fun i => n ≤ i ∧ i ≤ s.length ∧ Dn.skipE Dn.typC s i = Dn.skipE Dn.typC s n) (fun i => s.length - i) n ⟨Nat.le_refl _, by omega, rfl⟩ (run trivial) (run trivial) ?_
  rintro i ⟨hni, hi, he⟩
  have e1 : ((i : Int) + 1).toNat = i + 1 := by omega
  by_cases hgo : i < s.length ∧ Dn.typC (s.getD i 0) = true
  · obtain ⟨hlt, hc⟩ := hgo
    have h1 := Fi.take_one hlt
    have h2 := Fi.typ_one (s.getD i 0)
    have c2 : CFn Try.prog 37 [Is (str ([97] ++ (s.take ((i : Int) + 1).toNat).drop ((i : Int)).toNat))] (Is (.bool true)) := by
      have := rfType [97, s.getD i 0] (by simp)
      rw [h2, hc] at this
      rw [e1, Int.toNat_natCast, h1]
      exact this
    clear c1
    refine run ?_
    intro _
    exact HX.roundX (i + 1) ⟨⟨by omega, by omega, by rw [← he]; exact (Dn.skipE_yes hlt hc).symm⟩, by omega⟩ rfl (run trivial) (run trivial)
  · have hk : Dn.skipE Dn.typC s n = i := he.symm.trans (Dn.skipE_no fun hlt => by simpa [hlt] using hgo)
    have c2 : i < s.length → CFn Try.prog 37 [Is (str ([97] ++ (s.take ((i : Int) + 1).toNat).drop ((i : Int)).toNat))] (Is (.bool false)) := fun hlt => by
      have h1 := Fi.take_one hlt
      have h2 := Fi.typ_one (s.getD i 0)
      have := rfType [97, s.getD i 0] (by simp)
      rw [h2, show Dn.typC (s.getD i 0) = false by simpa [hlt] using hgo] at this
      rw [e1, Int.toNat_natCast, h1]
      exact this
    have hw : (s.drop n).takeWhile Dn.typC = (s.take i).drop n := by rw [← hk]; exact (Fi.skip_slice _ _ _).symm
    have hd : (s.drop n).dropWhile Dn.typC = s.drop i := by rw [← hk]; exact (Fi.skip_drop _ _ _).symm
    have c3 : CFn Try.prog 37 [Is (str ((s.take (i : Int).toNat).drop (n : Int).toNat))] (Is (.bool (Dn.typB ((s.take i).drop n)))) := c1 _ (by simp; omega)
    clear c1
    have hp := Fi.pos_drop hi
    cases ht : Dn.typB ((s.take i).drop n) with
    | false =>
      rw [Fi.rTyp_bad (by rw [hw]; exact ht), hd]
      dsimp only
      rw [hp]
      rw [ht] at c3
      refine run ?_
      and_intros <;> intros <;> rfl
    | true =>
      rw [ht] at c3
      have T1 := rdSign g s i e 62 hi hsl
      have T2 := rdSign g s i e 60 hi hsl
      have T3 := rdSign g s i e 126 hi hsl
      cases h1 : Fi.tk [62] (s.drop i) with
      | true =>
        rw [h1, if_pos rfl] at T1
        clear T2 T3
        obtain ⟨hsc, hst⟩ := Fi.sign_62 h1
        have hlt := Fi.tk_lt h1
        have hp1 := Fi.pos_drop (s := s) (n := i + 1) (by omega)
        have T4 : CallsC Try.prog 34 [Is (pAt g 0), okI .u8 61] [RX16 g s ((i : Int) + 1) e] (fun _ => Is (.bool (Fi.tk [61] (s.drop (i + 1))))) (fun _ => [RX16 g s (if Fi.tk [61] (s.drop (i + 1)) = true then (i : Int) + 1 + 1 else (i : Int) + 1) e]) := rdSign g s (i + 1) e 61 (by omega) hsl
        cases h4 : Fi.tk [61] (s.drop (i + 1)) with
        | false =>
          rw [Fi.rTyp_no (by rw [hw]; exact ht) (by rw [hd, hst, List.drop_drop]; exact h4), hd, hst, List.drop_drop]
          dsimp only
          rw [hp1]
          rw [h4, if_neg (by simp)] at T4
          refine run ?_
          and_intros <;> intros <;> first | rfl | omega
        | true =>
          have hlt2 := Fi.tk_lt h4
          have hp2 := Fi.pos_drop (s := s) (n := i + 1 + 1) (by omega)
          rw [Fi.rTyp_yes (by rw [hw]; exact ht) (by rw [hd, hst, List.drop_drop]; exact h4), hd, hst, hsc, hw, List.drop_drop, List.drop_drop]
          dsimp only
          rw [hp2]
          rw [h4, if_pos rfl] at T4
          refine run ?_
          and_intros <;> intros <;> first | rfl | omega
      | false =>
        rw [h1, if_neg (by simp)] at T1
        cases h2 : Fi.tk [60] (s.drop i) with
        | true =>
          rw [h2, if_pos rfl] at T2
          clear T3
          obtain ⟨hsc, hst⟩ := Fi.sign_60 h1 h2
          have hlt := Fi.tk_lt h2
          have hp1 := Fi.pos_drop (s := s) (n := i + 1) (by omega)
          have T4 : CallsC Try.prog 34 [Is (pAt g 0), okI .u8 61] [RX16 g s ((i : Int) + 1) e] (fun _ => Is (.bool (Fi.tk [61] (s.drop (i + 1))))) (fun _ => [RX16 g s (if Fi.tk [61] (s.drop (i + 1)) = true then (i : Int) + 1 + 1 else (i : Int) + 1) e]) := rdSign g s (i + 1) e 61 (by omega) hsl
          cases h4 : Fi.tk [61] (s.drop (i + 1)) with
          | false =>
            rw [Fi.rTyp_no (by rw [hw]; exact ht) (by rw [hd, hst, List.drop_drop]; exact h4), hd, hst, List.drop_drop]
            dsimp only
            rw [hp1]
            rw [h4, if_neg (by simp)] at T4
            refine run ?_
            and_intros <;> intros <;> first | rfl | omega
          | true =>
            have hlt2 := Fi.tk_lt h4
            have hp2 := Fi.pos_drop (s := s) (n := i + 1 + 1) (by omega)
            rw [Fi.rTyp_yes (by rw [hw]; exact ht) (by rw [hd, hst, List.drop_drop]; exact h4), hd, hst, hsc, hw, List.drop_drop, List.drop_drop]
            dsimp only
            rw [hp2]
            rw [h4, if_pos rfl] at T4
            refine run ?_
            and_intros <;> intros <;> first | rfl | omega
        | false =>
          rw [h2, if_neg (by simp)] at T2
          cases h3 : Fi.tk [126] (s.drop i) with
          | true =>
            rw [h3, if_pos rfl] at T3
            obtain ⟨hsc, hst⟩ := Fi.sign_126 h1 h2 h3
            have hlt := Fi.tk_lt h3
            have hp1 := Fi.pos_drop (s := s) (n := i + 1) (by omega)
            have T4 : CallsC Try.prog 34 [Is (pAt g 0), okI .u8 61] [RX16 g s ((i : Int) + 1) e] (fun _ => Is (.bool (Fi.tk [61] (s.drop (i + 1))))) (fun _ => [RX16 g s (if Fi.tk [61] (s.drop (i + 1)) = true then (i : Int) + 1 + 1 else (i : Int) + 1) e]) := rdSign g s (i + 1) e 61 (by omega) hsl
            cases h4 : Fi.tk [61] (s.drop (i + 1)) with
            | false =>
              rw [Fi.rTyp_no (by rw [hw]; exact ht) (by rw [hd, hst, List.drop_drop]; exact h4), hd, hst, List.drop_drop]
              dsimp only
              rw [hp1]
              rw [h4, if_neg (by simp)] at T4
              refine run ?_
              and_intros <;> intros <;> first | rfl | omega
            | true =>
              have hlt2 := Fi.tk_lt h4
              have hp2 := Fi.pos_drop (s := s) (n := i + 1 + 1) (by omega)
              rw [Fi.rTyp_yes (by rw [hw]; exact ht) (by rw [hd, hst, List.drop_drop]; exact h4), hd, hst, hsc, hw, List.drop_drop, List.drop_drop]
              dsimp only
              rw [hp2]
              rw [h4, if_pos rfl] at T4
              refine run ?_
              and_intros <;> intros <;> first | rfl | omega
          | false =>
            rw [h3, if_neg (by simp)] at T3
            obtain ⟨hsc, hst⟩ := Fi.sign_61 h1 h2 h3
            have T4 : CallsC Try.prog 34 [Is (pAt g 0), okI .u8 61] [RX16 g s (i : Int) e] (fun _ => Is (.bool (Fi.tk [61] (s.drop i)))) (fun _ => [RX16 g s (if Fi.tk [61] (s.drop i) = true then (i : Int) + 1 else (i : Int)) e]) := rdSign g s i e 61 (by omega) hsl
            cases h4 : Fi.tk [61] (s.drop i) with
            | false =>
              rw [Fi.rTyp_no (by rw [hw]; exact ht) (by rw [hd, hst]; exact h4), hd, hst]
              dsimp only
              rw [hp]
              rw [h4, if_neg (by simp)] at T4
              refine run ?_
              and_intros <;> intros <;> first | rfl | omega
            | true =>
              have hlt2 := Fi.tk_lt h4
              have hp2 := Fi.pos_drop (s := s) (n := i + 1) (by omega)
              rw [Fi.rTyp_yes (by rw [hw]; exact ht) (by rw [hd, hst]; exact h4), hd, hst, hsc, hw, List.drop_drop]
              dsimp only
              rw [hp2]
              rw [h4, if_pos rfl] at T4
              refine run ?_
              and_intros <;> intros <;> first | rfl | omega
end Go.Proofs.Ythjckklijlfghaa
set_option linter.unusedVariables false
namespace Go.Fi
open Go.Vk
open Go.Dn (typB typC halfV)
/-- Pieces, the last of which goes on. -/
def comb (acc : List (List UInt8)) (cur : List UInt8) : Option (List (List UInt8)) × List UInt8 → Option (List (List UInt8)) × List UInt8
  | (some (p :: ps), q) => (some (acc ++ (cur ++ p) :: ps), q)
  | (some [], q) => (some (acc ++ [cur]), q)
  | (none, q) => (none, q)
theorem rVal_ne (r : List UInt8) : (rVal r).1 ≠ some [] := by
  intro h
  have := (val_same r).1 [] (rVal r).2 (by rw [← h])
  exact absurd this.2 (by simp)
theorem rVal_some (r : List UInt8) : (∃ p ps, (rVal r).1 = some (p :: ps)) ∨ (rVal r).1 = none := by
  cases h : (rVal r).1 with
  | none => exact .inr rfl
  | some l =>
    cases l with
    | nil => exact absurd h (rVal_ne r)
    | cons p ps => exact .inl ⟨p, ps, rfl⟩
theorem comb_start (r : List UInt8) : comb [] [] (rVal r) = rVal r := by
  rcases rVal_some r with ⟨p, ps, h⟩ | h
  · rw [show rVal r = (some (p :: ps), (rVal r).2) from Prod.ext h rfl]; rfl
  · rw [show rVal r = (none, (rVal r).2) from Prod.ext h rfl]; rfl
theorem comb_close (acc : List (List UInt8)) (cur t : List UInt8) : comb acc cur (rVal (41 :: t)) = (some (acc ++ [cur]), 41 :: t) := by
  rw [rVal_close]; simp [comb]
theorem comb_nil (acc : List (List UInt8)) (cur : List UInt8) : comb acc cur (rVal []) = (some (acc ++ [cur]), []) := by
  have : rVal [] = (some [[]], []) := by unfold rVal; rfl
  rw [this]; simp [comb]
theorem comb_bad (acc : List (List UInt8)) (cur : List UInt8) {c : UInt8} (t : List UInt8) (h : c = 40 ∨ c = 0) : comb acc cur (rVal (c :: t)) = (none, c :: t) := by
  rw [rVal_bad t h]; rfl
theorem comb_star (acc : List (List UInt8)) (cur t : List UInt8) : comb acc cur (rVal (42 :: t)) = comb (acc ++ [cur]) [] (rVal t) := by
  rw [rVal_star]
  rcases rVal_some t with ⟨p, ps, h⟩ | h
  · rw [show rVal t = (some (p :: ps), (rVal t).2) from Prod.ext h rfl]; simp [comb]
  · rw [show rVal t = (none, (rVal t).2) from Prod.ext h rfl]; rfl
theorem comb_in (acc : List (List UInt8)) (cur t : List UInt8) (x : UInt8) : comb acc cur ((rVal t).1.map (inHead x), (rVal t).2) = comb acc (cur ++ [x]) (rVal t) := by
  rcases rVal_some t with ⟨p, ps, h⟩ | h
  · rw [show rVal t = (some (p :: ps), (rVal t).2) from Prod.ext h rfl]; simp [comb, inHead]
  · rw [show rVal t = (none, (rVal t).2) from Prod.ext h rfl]; rfl
theorem comb_plain (acc : List (List UInt8)) (cur : List UInt8) {c : UInt8} {t : List UInt8} (h1 : c ≠ 41) (h2 : c ≠ 40) (h3 : c ≠ 0) (h4 : c ≠ 42) (h5 : c ≠ 92) : comb acc cur (rVal (c :: t)) = comb acc (cur ++ [c]) (rVal t) := by
  rw [rVal_plain h1 h2 h3 h4 h5, comb_in]
theorem comb_esc (acc : List (List UInt8)) (cur : List UInt8) {a b : UInt8} {t : List UInt8} (h : 0 ≤ halfV a ∧ 0 ≤ halfV b) : comb acc cur (rVal (92 :: a :: b :: t)) = comb acc (cur ++ [b8 (16 * halfV a + halfV b)]) (rVal t) := by
  rw [rVal_esc, escR_cons, if_pos h]
  exact comb_in _ _ _ _
theorem comb_noesc (acc : List (List UInt8)) (cur : List UInt8) {r : List UInt8} (h : escR r = none) : comb acc cur (rVal (92 :: r)) = (none, 92 :: r) := by
  rw [rVal_esc, h]; rfl
theorem esc_short {s : List UInt8} {i : Nat} (h : (s.length : Int) ≤ (i : Int) + 2) : escR (s.drop (i + 1)) = none := by
  match hm : s.drop (i + 1) with
  | [] => rfl
  | [a] => rfl
  | a :: b :: t =>
    have := congrArg List.length hm
    simp only [List.length_drop, List.length_cons] at this
    omega
theorem esc_at {s : List UInt8} {i : Nat} (h : i + 2 < s.length) : s.drop (i + 1) = s.getD (i + 1) 0 :: s.getD (i + 2) 0 :: s.drop (i + 3) := by
  rw [Dn.drop_cons (by omega), Dn.drop_cons (n := i + 1 + 1) (by omega)]
theorem rVal_suf (r : List UInt8) : (rVal r).2 <:+ r := by
  induction hn : r.length using Nat.strongRecOn generalizing r with
  | _ n ih =>
    cases r with
    | nil => unfold rVal; exact List.suffix_refl _
    | cons c t =>
      simp only [List.length_cons] at hn
      have ht := ih _ (by omega) t rfl
      by_cases h1 : c = 41
      · subst h1; rw [rVal_close]; exact List.suffix_refl _
      by_cases h2 : c = 40 ∨ c = 0
      · rw [rVal_bad t h2]; exact List.suffix_refl _
      by_cases h3 : c = 42
      · subst h3; rw [rVal_star]; exact ht.trans (List.suffix_cons _ _)
      by_cases h4 : c = 92
      · subst h4
        rw [rVal_esc]
        cases he : escR t with
        | none => exact List.suffix_refl _
        | some x =>
          obtain ⟨x, t'⟩ := x
          have hsf : t' <:+ t := by
            match t, he with
            | a :: b :: q, he =>
              rw [escR_cons] at he
              split at he
              · cases he
                exact (List.suffix_cons _ _).trans (List.suffix_cons _ _)
              · cases he
            | [], he => cases he
            | [a], he => cases he
          have hl := hsf.length_le
          exact (ih _ (by omega) t' rfl).trans (hsf.trans (List.suffix_cons _ _))
      · rw [rVal_plain h1 (fun e => h2 (.inl e)) (fun e => h2 (.inr e)) h3 h4]
        exact ht.trans (List.suffix_cons _ _)
theorem last_get (acc : List (List UInt8)) (cur : List UInt8) : (acc ++ [cur]).getD (((acc ++ [cur]).length : Int) - 1).toNat default = cur := by
  rw [show (((acc ++ [cur]).length : Int) - 1).toNat = acc.length by rw [List.length_append, List.length_singleton]; omega]
  simp
theorem last_set (acc : List (List UInt8)) (cur x : List UInt8) : (acc ++ [cur]).set (((acc ++ [cur]).length : Int) - 1).toNat x = acc ++ [x] := by
  rw [show (((acc ++ [cur]).length : Int) - 1).toNat = acc.length by rw [List.length_append, List.length_singleton]; omega]
  simp
end Go.Fi
set_option linter.unusedVariables false
namespace Go.Proofs.Ythjckklijlfghaa
open Go.Vk
attribute [local irreducible] HT HX RegS RegA RegM OpP OpC AltT
attribute [local irreducible] Dn.typB Dn.typC Dn.halfV Fi.tk Fi.posI Fi.rVal
set_option maxRecDepth 4000 in
set_option maxHeartbeats 8000000 in
theorem rdVal (g : Nat) (s : List UInt8) (n : Nat) (e : Int) (hn : n ≤ s.length) (hsl : s.length ≤ 1000000) : CallsC Try.prog 51 [Is (pAt g 0)] [RX16 g s (n : Int) e] (fun _ => TTup [TSl 1 Fi.cS ((Fi.rVal (s.drop n)).1.getD []), Is (.bool (Fi.rVal (s.drop n)).1.isSome)]) (fun _ => [RX16 g s (Fi.posI s (Fi.rVal (s.drop n)).2) e]) := by
  have c1 := rfHalf
  have ma := MutA.mk' [7]
  have pl4 := Plan.mk' 4 [(0,3,[]),(1,3,[]),(2,3,[]),(3,3,[]),(4,3,[]),(5,3,[]),(6,3,[]),(7,3,[]),(8,3,[]),(10,3,[]),(11,3,[]),(12,3,[]),(14,3,[]),(9,2,[1]),(13,3,[]),(15,0,[])]
  have pl15 := Plan.mk' 15 [(0,3,[]),(1,3,[]),(2,3,[]),(3,3,[]),(4,3,[]),(5,3,[]),(6,3,[]),(7,3,[]),(8,3,[]),(10,3,[]),(11,3,[]),(12,3,[]),(14,3,[]),(9,2,[1]),(13,3,[]),(15,0,[])]
  have hset : SetF Fi.cS 0 (fun x : List UInt8 => Is (str x)) (fun _ x => x) := ⟨fun _ _ => rfl⟩
  refine CallsC.of Try.call51 Try.func51 rfl Try.ntmps51 rfl fun w0 G0 S0 hs ho => ?_
  refine run ?_
  intro v
  rw [show ownA (sblk v) (scap v) 9 1 (fun ts : List Ty => ts) [[Is (.string { data := #[] })]] = ownA (sblk v) (scap v) 9 1 Fi.cS [[]] from ownA_map Fi.cS [[]]]
  refine HT.loopX (σ := List (List UInt8) × List UInt8 × Nat × Nat × Nat) [0] (fun t => [(4, Is (slAt t.2.2.2.1 (t.1 ++ [t.2.1]).length t.2.2.2.2))]) (fun t => [RX16 g s (t.2.2.1 : Int) e, ownA t.2.2.2.1 t.2.2.2.2 9 1 Fi.cS (t.1 ++ [t.2.1])]) (fun t => t.2.2.1 ≤ s.length ∧ (t.1.length ≤ t.2.2.1 ∧ t.2.1.length ≤ t.2.2.1) ∧ Fi.comb t.1 t.2.1 (Fi.rVal (s.drop t.2.2.1)) = Fi.rVal (s.drop n)) (fun t => s.length - t.2.2.1) ([], [], n, sblk v, scap v) ⟨hn, ⟨Nat.zero_le _, Nat.zero_le _⟩, Fi.comb_start _⟩ (by first | exact run trivial | (refine run ?_; and_intros <;> intros <;> rfl)) (by first | exact run trivial | (refine run ?_; and_intros <;> intros <;> rfl)) ?_
  rintro ⟨acc, cur, i, b, c⟩ ⟨hi, hl, he⟩
  dsimp only at hi hl he ⊢
  have hpi := Fi.pos_drop hi
  have hgd := Fi.last_get acc cur
  have hgl : ((acc ++ [cur]).getD (((acc ++ [cur]).length : Int) - 1).toNat default).length ≤ s.length := by rw [hgd]; omega
  have hll : (acc ++ [cur]).length ≤ s.length + 1 := by rw [List.length_append, List.length_singleton]; omega
  have hl0 : 0 < (acc ++ [cur]).length := by rw [List.length_append, List.length_singleton]; omega
  by_cases hgo : i < s.length ∧ s.getD i 0 ≠ 41
  · obtain ⟨hlt, hc41⟩ := hgo
    rw [Dn.drop_cons hlt] at he
    have hcv : ∀ d : UInt8, ((s.getD i 0).toNat : Int) = (d.toNat : Int) ↔ s.getD i 0 = d := fun d => ⟨fun h => Fi.u8_eq h, fun h => by rw [h]⟩
    have h41 : ¬ ((s.getD i 0).toNat : Int) = 41 := fun h => hc41 ((hcv 41).1 h)
    by_cases hb : s.getD i 0 = 40 ∨ s.getD i 0 = 0
    · rw [Fi.comb_bad _ _ _ hb, ← Dn.drop_cons hlt] at he
      have hbv : ((s.getD i 0).toNat : Int) = 40 ∨ ((s.getD i 0).toNat : Int) = 0 := hb.imp (hcv 40).2 (hcv 0).2
      rw [← he]
      dsimp only [Option.getD_none, Option.isSome_none]
      rw [hpi]
      clear c1
      exact run trivial
    have hb40 : ¬ ((s.getD i 0).toNat : Int) = 40 := fun h => hb (.inl ((hcv 40).1 h))
    have hb0 : ¬ ((s.getD i 0).toNat : Int) = 0 := fun h => hb (.inr ((hcv 0).1 h))
    by_cases hst : s.getD i 0 = 42
    · rw [hst, Fi.comb_star] at he
      have hsv : ((s.getD i 0).toNat : Int) = 42 := (hcv 42).2 hst
      clear c1
      refine run ?_
      intro v' _ _ _
      exact HX.roundX (acc ++ [cur], [], i + 1, sblk v', scap v') ⟨⟨by dsimp only; omega, ⟨by dsimp only; rw [List.length_append, List.length_singleton]; omega, Nat.zero_le _⟩, he⟩, by dsimp only; omega⟩ rfl (run trivial) (run trivial)
    have hs42 : ¬ ((s.getD i 0).toNat : Int) = 42 := fun h => hst ((hcv 42).1 h)
    by_cases hbs : s.getD i 0 = 92
    · have hbv : ((s.getD i 0).toNat : Int) = 92 := (hcv 92).2 hbs
      have e1 : ((i : Int) + 1).toNat = i + 1 := by omega
      have e2 : ((i : Int) + 2).toNat = i + 2 := by omega
      by_cases hsh : (s.length : Int) ≤ (i : Int) + 2
      · rw [hbs, Fi.comb_noesc _ _ (Fi.esc_short hsh), ← hbs, ← Dn.drop_cons hlt] at he
        rw [← he]
        dsimp only [Option.getD_none, Option.isSome_none]
        rw [hpi]
        exact run trivial
      have hea := Fi.esc_at (s := s) (i := i) (by omega)
      have cA : CFn Try.prog 66 [okI .u8 ((s.getD ((i : Int) + 1).toNat 0).toNat : Int)] (okI .i64 (Dn.halfV (s.getD (i + 1) 0))) := by rw [e1]; exact c1 _
      have cB : CFn Try.prog 66 [okI .u8 ((s.getD ((i : Int) + 2).toNat 0).toNat : Int)] (okI .i64 (Dn.halfV (s.getD (i + 2) 0))) := by rw [e2]; exact c1 _
      have hA1 := Dn.halfV_bd (s.getD (i + 1) 0)
      have hB1 := Dn.halfV_bd (s.getD (i + 2) 0)
      clear c1
      by_cases hh : 0 ≤ Dn.halfV (s.getD (i + 1) 0) ∧ 0 ≤ Dn.halfV (s.getD (i + 2) 0)
      · obtain ⟨hh1, hh2⟩ := hh
        rw [hbs, hea, Fi.comb_esc _ _ ⟨hh1, hh2⟩] at he
        refine run ?_
        intros
        rw [hgd, Fi.last_set]
        exact HX.roundX (acc, cur ++ [b8 (16 * Dn.halfV (s.getD (i + 1) 0) + Dn.halfV (s.getD (i + 2) 0))], i + 3, b, c) ⟨⟨by dsimp only; omega, ⟨by dsimp only; omega, by dsimp only; rw [List.length_append, List.length_singleton]; omega⟩, he⟩, by dsimp only; omega⟩ rfl (run trivial) (by refine run ?_; simp)
      · rw [hbs, Fi.comb_noesc _ _ (by rw [hea, Fi.escR_cons, if_neg hh]), ← hbs, ← Dn.drop_cons hlt] at he
        rw [← he]
        dsimp only [Option.getD_none, Option.isSome_none]
        rw [hpi]
        exact run trivial
    have hs92 : ¬ ((s.getD i 0).toNat : Int) = 92 := fun h => hbs ((hcv 92).1 h)
    rw [Fi.comb_plain _ _ hc41 (fun h => hb (.inl h)) (fun h => hb (.inr h)) hst hbs] at he
    clear c1
    refine run ?_
    intro _ _ _ _
    rw [hgd, Fi.last_set]
    exact HX.roundX (acc, cur ++ [s.getD i 0], i + 1, b, c) ⟨⟨by dsimp only; omega, ⟨by dsimp only; omega, by dsimp only; rw [List.length_append, List.length_singleton]; omega⟩, he⟩, by dsimp only; omega⟩ rfl (run trivial) (by refine run ?_; simp)
  · have hk : Fi.comb acc cur (Fi.rVal (s.drop i)) = (some (acc ++ [cur]), s.drop i) := by
      by_cases hlt : i < s.length
      · rw [Dn.drop_cons hlt, show s.getD i 0 = 41 from Decidable.not_not.1 fun h => hgo ⟨hlt, h⟩]
        exact Fi.comb_close _ _ _
      · rw [List.drop_of_length_le (by omega)]
        exact Fi.comb_nil _ _
    rw [← he, hk]
    dsimp only [Option.getD_some, Option.isSome_some]
    rw [hpi]
    have hno : i < s.length → ((s.getD i 0).toNat : Int) = 41 := fun hlt => by
      have : s.getD i 0 = 41 := Decidable.not_not.1 fun h => hgo ⟨hlt, h⟩
      rw [this]; rfl
    clear c1
    refine HT.give (t := 4) 1 rfl rfl rfl ?_
    exact run trivial
end Go.Proofs.Ythjckklijlfghaa
set_option linter.unusedVariables false
namespace Go.Fi
open Go.Vk
open Go.Dn (typB typC halfV)
theorem rItem_no {r : List UInt8} (h : (rTyp r).2.1 = 0) : rItem r = (zeroF, (rTyp r).2.2, 3) := if_pos h
theorem rItem_yes {r : List UInt8} (h : ¬ (rTyp r).2.1 = 0) : rItem r = rFin (rTyp r).1 (rTyp r).2.1 (rVal (rTyp r).2.2) := if_neg h
theorem rMk_62 (t : List UInt8) (l : List (List UInt8)) : rMk t 62 l = .mk 5 t (l.getD 0 []) [] [] := by unfold rMk; rw [if_pos rfl]
theorem rMk_60 (t : List UInt8) (l : List (List UInt8)) : rMk t 60 l = .mk 6 t (l.getD 0 []) [] [] := by unfold rMk; rw [if_neg (by decide), if_pos rfl]
theorem rMk_else {t : List UInt8} {c : UInt8} {l : List (List UInt8)} (h1 : c ≠ 62) (h2 : c ≠ 60) : (∃ _ : l.length = 2 ∧ l.getD 0 [] = [] ∧ l.getD 1 [] = [], rMk t c l = .mk 7 t [] [] []) ∨ (∃ _ : ¬ (l.length = 2 ∧ l.getD 0 [] = [] ∧ l.getD 1 [] = []) ∧ 1 < l.length, rMk t c l = .mk 4 t [] l []) ∨ (∃ _ : ¬ 1 < l.length, rMk t c l = .mk 3 t (l.getD 0 []) [] []) := by
  unfold rMk
  rw [if_neg h1, if_neg h2]
  by_cases h3 : l.length = 2 ∧ l.getD 0 [] = [] ∧ l.getD 1 [] = []
  · exact .inl ⟨h3, if_pos h3⟩
  by_cases h4 : 1 < l.length
  · exact .inr (.inl ⟨⟨h3, h4⟩, by rw [if_neg h3, if_pos h4]⟩)
  · exact .inr (.inr ⟨h4, by rw [if_neg h3, if_neg h4]⟩)
theorem rItem_suf (r : List UInt8) : (rItem r).2.1 <:+ r := by
  by_cases h : (rTyp r).2.1 = 0
  · rw [rItem_no h]; exact rTyp_suf r
  · rw [rItem_yes h]
    have h1 := (rVal_suf (rTyp r).2.2).trans (rTyp_suf r)
    generalize rVal (rTyp r).2.2 = y at h1
    obtain ⟨o, q⟩ := y
    cases o with
    | none => exact h1
    | some l =>
      rw [rFin_some]
      split <;> exact h1
end Go.Fi
set_option linter.unusedVariables false
namespace Go.Proofs.Ythjckklijlfghaa
open Go.Vk
attribute [local irreducible] HT HX RegS RegA RegM OpP OpC AltT
attribute [local irreducible] Dn.typB Dn.typC Dn.halfV Fi.tk Fi.posI Fi.rTyp Fi.rVal
set_option maxHeartbeats 4000000 in
theorem rdItem (g : Nat) (s : List UInt8) (n : Nat) (hn : n ≤ s.length) (hsl : s.length ≤ 1000000) : CallsC Try.prog 36 [Is (pAt g 0)] [RX16 g s (n : Int) 0] (fun _ => TAgg (Fi.cF (Fi.rItem (s.drop n)).1)) (fun _ => [RX16 g s (Fi.posI s (Fi.rItem (s.drop n)).2.1) (Fi.rItem (s.drop n)).2.2]) := by
  have c1 := rdTyp g s n 0 hn hsl
  have c2 : ∀ a : Int, CallsC Try.prog 22 [Is (pAt g 0), okI .i64 3] [RX16 g s a 0] (fun _ => TAgg (Fi.cF Fi.zeroF)) (fun _ => [RX16 g s a 3]) := fun a => rdBad g s a 0 3
  have hsf := (Fi.rTyp_suf (s.drop n)).trans (Fi.suf_drop s n)
  have hpb := Fi.pos_bd hsf
  have c3 := rdVal g s (Fi.posI s (Fi.rTyp (s.drop n)).2.2).toNat 0 (by omega) hsl
  rw [Fi.drop_pos hsf, Int.toNat_of_nonneg hpb.1] at c3
  have hcv : ∀ d : UInt8, ((Fi.rTyp (s.drop n)).2.1.toNat : Int) = (d.toNat : Int) ↔ (Fi.rTyp (s.drop n)).2.1 = d := fun d => ⟨fun h => Fi.u8_eq h, fun h => by rw [h]⟩
  have hdef : (default : List UInt8) = [] := rfl
  by_cases hc0 : (Fi.rTyp (s.drop n)).2.1 = 0
  · rw [Fi.rItem_no hc0]
    have hi := (hcv 0).2 hc0
    clear c3
    refine CallsC.of Try.call36 Try.func36 rfl Try.ntmps36 rfl fun w0 G0 S0 hs ho => ?_
    (refine run ?_; (and_intros <;> intros <;> first | rfl | (exfalso; grind)))
  rw [Fi.rItem_yes hc0]
  have hi0 : ¬ ((Fi.rTyp (s.drop n)).2.1.toNat : Int) = 0 := fun h => hc0 ((hcv 0).1 h)
  generalize hty : Fi.rTyp (s.drop n) = ty at *
  obtain ⟨t, c, r⟩ := ty
  dsimp only at *
  generalize hva : Fi.rVal r = va at *
  obtain ⟨o, q⟩ := va
  cases o with
  | none =>
    rw [Fi.rFin_none]
    dsimp only [Option.getD_none, Option.isSome_none] at *
    refine CallsC.of Try.call36 Try.func36 rfl Try.ntmps36 rfl fun w0 G0 S0 hs ho => ?_
    exact run trivial
  | some l =>
    have hl1 : 1 ≤ l.length := by
      rcases l with _ | ⟨p, ps⟩
      · exact absurd (by rw [hva]) (Fi.rVal_ne r)
      · simp
    dsimp only [Option.getD_some, Option.isSome_some] at *
    rw [Fi.rFin_some]
    by_cases hb : c ≠ 61 ∧ 1 < l.length
    · rw [if_pos hb]
      have hi61 : ¬ (c.toNat : Int) = 61 := fun h => hb.1 ((hcv 61).1 h)
      have hl2 := hb.2
      clear hb
      refine CallsC.of Try.call36 Try.func36 rfl Try.ntmps36 rfl fun w0 G0 S0 hs ho => ?_
      exact run trivial
    rw [if_neg hb]
    have hb' : (c.toNat : Int) = 61 ∨ ¬ 1 < l.length := by
      by_cases h : c = 61
      · exact .inl ((hcv 61).2 h)
      · exact .inr fun h2 => hb ⟨h, h2⟩
    clear hb c2
    by_cases h62 : c = 62
    · subst h62
      rw [Fi.rMk_62]
      have hi := (hcv 62).2 rfl
      refine CallsC.of Try.call36 Try.func36 rfl Try.ntmps36 rfl fun w0 G0 S0 hs ho => ?_
      (refine run ?_; (and_intros <;> intros <;> first | rfl | (exfalso; grind)))
    have hi62 : ¬ (c.toNat : Int) = 62 := fun h => h62 ((hcv 62).1 h)
    by_cases h60 : c = 60
    · subst h60
      rw [Fi.rMk_60]
      have hi := (hcv 60).2 rfl
      refine CallsC.of Try.call36 Try.func36 rfl Try.ntmps36 rfl fun w0 G0 S0 hs ho => ?_
      (refine run ?_; (and_intros <;> intros <;> first | rfl | (exfalso; grind)))
    have hi60 : ¬ (c.toNat : Int) = 60 := fun h => h60 ((hcv 60).1 h)
    rcases Fi.rMk_else (t := t) (l := l) h62 h60 with ⟨h3, h2⟩ | ⟨h3, h2⟩ | ⟨h3, h2⟩
    · rw [h2]
      refine CallsC.of Try.call36 Try.func36 rfl Try.ntmps36 rfl fun w0 G0 S0 hs ho => ?_
      (refine run ?_; (and_intros <;> intros <;> first | rfl | (exfalso; grind)))
    · rw [h2]
      refine CallsC.of Try.call36 Try.func36 rfl Try.ntmps36 rfl fun w0 G0 S0 hs ho => ?_
      (refine run ?_; (and_intros <;> intros <;> first | rfl | (exfalso; grind)))
    · rw [h2]
      refine CallsC.of Try.call36 Try.func36 rfl Try.ntmps36 rfl fun w0 G0 S0 hs ho => ?_
      (refine run ?_; (and_intros <;> intros <;> first | rfl | (exfalso; grind)))
end Go.Proofs.Ythjckklijlfghaa
set_option linter.unusedVariables false
namespace Go.Fi
open Go.Vk
theorem closeR_suf {x : Fil × St} {r : List UInt8} (h : x.2.1 <:+ r) : (closeR x).2.1 <:+ r := by
  unfold closeR
  split
  · split
    · exact (List.drop_suffix 1 _).trans h
    · exact h
  · exact h
theorem rLoop_suf {rf : List UInt8 → Fil × St} (h : ∀ r, (rf r).2.1 <:+ r) : ∀ (n : Nat) (acc : List Fil) (r : List UInt8), (rLoop rf n acc r).2.1 <:+ r
  | 0, acc, r => List.suffix_refl _
  | n + 1, acc, r => by
    unfold rLoop
    split
    · exact (rLoop_suf h n _ _).trans (h r)
    · exact h r
theorem rBody_suf {rf : List UInt8 → Fil × St} (h : ∀ r, (rf r).2.1 <:+ r) (r : List UInt8) : (rBody rf r).2.1 <:+ r := by
  unfold rBody rKids
  split
  · exact (rLoop_suf h _ _ _).trans (List.drop_suffix 1 r)
  split
  · exact (rLoop_suf h _ _ _).trans (List.drop_suffix 1 r)
  split
  · exact (h _).trans (List.drop_suffix 1 r)
  · exact rItem_suf r
theorem rFilt_suf : ∀ (d : Nat) (r : List UInt8), (rFilt d r).2.1 <:+ r
  | 0, r => by
    unfold rFilt
    split
    · exact List.drop_suffix 1 r
    · exact List.suffix_refl _
  | d + 1, r => by
    unfold rFilt
    split
    · exact closeR_suf ((rBody_suf (rFilt_suf d) _).trans (List.drop_suffix 1 r))
    · exact List.suffix_refl _
theorem rFilt_eats (d : Nat) (r : List UInt8) (h : (rFilt d r).2.2 = 0) : (rFilt d r).2.1.length < r.length := by
  cases d with
  | zero =>
    unfold rFilt at h
    split at h <;> simp at h
  | succ d =>
    unfold rFilt at h ⊢
    split at h
    · rename_i ht
      rw [if_pos ht]
      have h1 := (closeR_suf (rBody_suf (rFilt_suf d) (r.drop 1))).length_le
      have h2 := tk_len1 ht
      rw [List.length_drop] at h1
      omega
    · simp at h
theorem rLoop_fuel {rf : List UInt8 → Fil × St} (h : ∀ r, (rf r).2.2 = 0 → (rf r).2.1.length < r.length) : ∀ (n m : Nat) (acc : List Fil) (r : List UInt8), r.length < n → r.length < m → rLoop rf n acc r = rLoop rf m acc r
  | 0, m, acc, r, h1, _ => by omega
  | n + 1, 0, acc, r, _, h2 => by omega
  | n + 1, m + 1, acc, r, h1, h2 => by
    unfold rLoop
    split
    · rename_i hc
      have := h r hc.1
      exact rLoop_fuel h n m _ _ (by omega) (by omega)
    · rfl
/-- How the loop over kids stands. -/
def rSt (rf : List UInt8 → Fil × St) (acc : List Fil) (r : List UInt8) (e : Int) : List Fil × St := if e = 0 ∧ (acc.length = 0 ∨ tk [40] r = true) then rLoop rf (r.length + 1) acc r else (acc, r, e)
theorem rSt_go {rf : List UInt8 → Fil × St} (h : ∀ r, (rf r).2.2 = 0 → (rf r).2.1.length < r.length) {acc : List Fil} {r : List UInt8} (hc : acc.length = 0 ∨ tk [40] r = true) : rSt rf acc r 0 = rSt rf (acc ++ [(rf r).1]) (rf r).2.1 (rf r).2.2 := by
  unfold rSt
  rw [if_pos ⟨rfl, hc⟩]
  conv => lhs; unfold rLoop
  by_cases h0 : (rf r).2.2 = 0
  · by_cases hk : tk [40] (rf r).2.1 = true
    · rw [if_pos ⟨h0, hk⟩, if_pos ⟨h0, .inr hk⟩]
      exact rLoop_fuel h _ _ _ _ (h r h0) (by omega)
    · rw [if_neg (fun x => hk x.2), if_neg (fun x => by rcases x.2 with y | y; · rw [List.length_append, List.length_singleton] at y; omega
                                                        · exact hk y)]
  · rw [if_neg (fun x => h0 x.1), if_neg (fun x => h0 x.1)]
theorem rSt_end {rf : List UInt8 → Fil × St} {acc : List Fil} {r : List UInt8} {e : Int} (h : ¬ (e = 0 ∧ (acc.length = 0 ∨ tk [40] r = true))) : rSt rf acc r e = (acc, r, e) := if_neg h
theorem rKids_def (rf : List UInt8 → Fil × St) (k : Int) (r : List UInt8) : rKids rf k r = (.mk k [] [] [] (rSt rf [] r 0).1, (rSt rf [] r 0).2) := by
  unfold rKids rSt
  rw [if_pos ⟨rfl, .inl rfl⟩]
theorem rf_0 (r : List UInt8) : rFilt 0 r = if tk [40] r = true then (zeroF, r.drop 1, 10) else (zeroF, r, 3) := by unfold rFilt; rfl
theorem rf_S (d : Nat) (r : List UInt8) : rFilt (d + 1) r = if tk [40] r = true then closeR (rBody (rFilt d) (r.drop 1)) else (zeroF, r, 3) := by conv => lhs; unfold rFilt
end Go.Fi
set_option linter.unusedVariables false
namespace Go.Proofs.Ythjckklijlfghaa
open Go.Vk
attribute [local irreducible] HT HX RegS RegA RegM OpP OpC AltT
attribute [local irreducible] Dn.typB Dn.typC Dn.halfV Fi.tk Fi.posI Fi.rFilt Fi.rSt Fi.rItem
/-- What a filter's contract is, so deep. -/
def FiltR (d : Nat) : Prop := ∀ (g : Nat) (s : List UInt8) (a : Int), 0 ≤ a ∧ a ≤ s.length → s.length ≤ 1000000 → CallsC Try.prog 21 [Is (pAt g 0), okI .i64 (17 - (d : Int))] [RX16 g s a 0] (fun _ => TAgg (Fi.cF (Fi.rFilt d (s.drop a.toNat)).1)) (fun _ => [RX16 g s (Fi.posI s (Fi.rFilt d (s.drop a.toNat)).2.1) (Fi.rFilt d (s.drop a.toNat)).2.2])
set_option maxHeartbeats 4000000 in
theorem rdKids (d : Nat) (hd : d < 16) (IH : FiltR d) (g : Nat) (s : List UInt8) (a k : Int) (ha : 0 ≤ a ∧ a ≤ s.length) (hsl : s.length ≤ 1000000) : CallsC Try.prog 35 [Is (pAt g 0), okI .i64 k, okI .i64 (17 - ((d + 1 : Nat) : Int))] [RX16 g s a 0] (fun _ => TAgg (Fi.cF (Fi.rKids (Fi.rFilt d) k (s.drop a.toNat)).1)) (fun _ => [RX16 g s (Fi.posI s (Fi.rKids (Fi.rFilt d) k (s.drop a.toNat)).2.1) (Fi.rKids (Fi.rFilt d) k (s.drop a.toNat)).2.2]) := by
  obtain ⟨n, rfl⟩ : ∃ n : Nat, a = (n : Int) := ⟨a.toNat, by omega⟩
  rw [Int.toNat_natCast, Fi.rKids_def, Fi.cF_open]
  dsimp only [Fi.Fil.kind, Fi.Fil.typ, Fi.Fil.val, Fi.Fil.subs, Fi.Fil.kids]
  have pl := Plan.mk' 3 [(0,3,[]),(2,3,[]),(3,3,[]),(4,3,[]),(8,3,[]),(1,2,[2]),(5,0,[2]),(6,3,[]),(7,0,[]),(9,0,[])]
  refine CallsC.of Try.call35 Try.func35 rfl Try.ntmps35 rfl fun w0 G0 S0 hs ho => ?_
  refine run ?_
  intro v1 v2
  refine HT.loopX (σ := List Fi.Fil × Nat × Int × Value) [0, 2, 6, 7] (fun t => []) (fun t => [RX16 g s (t.2.1 : Int) t.2.2.1, ownP (blk v1) 25 [Is (.int .i64 0), Is (str []), Is (str []), Is (.slice none 0 0), Is (.slice none 0 0)], ownP (blk v2) 25 [okI .i64 k, Is (str []), Is (str []), Is (.slice none 0 0), TAnd (Is t.2.2.2) (TSl 5 Fi.cF t.1)], ownSl t.2.2.2 5 25]) (fun t => t.2.1 ≤ s.length ∧ (t.1.length ≤ t.2.1 + 1 ∧ (t.2.2.1 = 0 → t.1.length ≤ t.2.1)) ∧ Fi.rSt (Fi.rFilt d) t.1 (s.drop t.2.1) t.2.2.1 = Fi.rSt (Fi.rFilt d) [] (s.drop n) 0) (fun t => if t.2.2.1 = 0 then s.length - t.2.1 + 1 else 0) ([], n, 0, .slice none 0 0) ⟨by dsimp only; omega, by simp, rfl⟩ (run trivial) (run trivial) ?_
  rintro ⟨acc, i, e, v⟩ ⟨hi, hl, he⟩
  dsimp only at hi hl he ⊢
  have htk := Fi.tk_at (c := 40) (s := s) (i := i)
  have hcv : ((s.getD i 0).toNat : Int) = 40 ↔ s.getD i 0 = 40 := ⟨fun h => Fi.u8_eq (d := 40) h, fun h => by rw [h]; rfl⟩
  have hq0 : (acc.length = 0 ∨ Fi.tk [40] (s.drop i) = true) ↔ ((acc.length : Int) = 0 ∨ (i < s.length ∧ ((s.getD i 0).toNat : Int) = 40)) := by
    rw [htk, hcv]; simp only [Bool.and_eq_true, decide_eq_true_eq]; exact or_congr_left (by omega)
  by_cases hgo : e = 0 ∧ (acc.length = 0 ∨ Fi.tk [40] (s.drop i) = true)
  · obtain ⟨rfl, hgo⟩ := hgo
    have c1 := IH g s (i : Int) (by omega) hsl
    rw [Int.toNat_natCast, show (17 : Int) - (d : Int) = 17 - ((d + 1 : Nat) : Int) + 1 by omega] at c1
    have hsf := (Fi.rFilt_suf d (s.drop i)).trans (Fi.suf_drop s i)
    have hb := Fi.pos_bd hsf
    have hdr := Fi.drop_pos hsf
    have hz := Fi.rSt_go (acc := acc) (r := s.drop i) (Fi.rFilt_eats d) hgo
    rw [he] at hz
    have hgv := hq0.1 hgo
    have hle := (Fi.rFilt_suf d (s.drop i)).length_le
    have hpi := Fi.posI_def s (Fi.rFilt d (s.drop i)).2.1
    have hea := Fi.rFilt_eats d (s.drop i)
    rw [List.length_drop] at hle hea
    have hl2 := hl.2 rfl
    clear hq0 htk hcv
    refine run ?_
    intro v' _
    refine HX.roundX (acc ++ [(Fi.rFilt d (s.drop i)).1], (Fi.posI s (Fi.rFilt d (s.drop i)).2.1).toNat, (Fi.rFilt d (s.drop i)).2.2, v') ⟨⟨by dsimp only; omega, ⟨by dsimp only; rw [List.length_append, List.length_singleton]; omega, fun h0 => by have := hea h0; dsimp only; rw [List.length_append, List.length_singleton]; omega⟩, by dsimp only; rw [hdr]; exact hz.symm⟩, ?_⟩ rfl (run trivial) (run trivial)
    dsimp only
    refine Nat.lt_of_lt_of_eq ?_ (if_pos rfl).symm
    split
    · rename_i hc; have := hea hc; omega
    · omega
  · have hend := Fi.rSt_end (rf := Fi.rFilt d) (acc := acc) (r := s.drop i) hgo
    rw [he] at hend
    have hpos := Fi.pos_drop hi
    rw [hend]
    rw [hq0] at hgo
    clear hq0 htk hcv
    exact run trivial
set_option maxHeartbeats 4000000 in
theorem rdFilt0 : FiltR 0 := by
  intro g s a ha hsl
  obtain ⟨n, rfl⟩ : ∃ n : Nat, a = (n : Int) := ⟨a.toNat, by omega⟩
  have c1 := rdSign g s n 0 40 (by omega) hsl
  have c2 : ∀ (a c : Int), CallsC Try.prog 22 [Is (pAt g 0), okI .i64 c] [RX16 g s a 0] (fun _ => TAgg (Fi.cF Fi.zeroF)) (fun _ => [RX16 g s a c]) := fun a c => rdBad g s a 0 c
  rw [Int.toNat_natCast]
  rw [Fi.rf_0]
  cases hk : Fi.tk [40] (s.drop n) with
  | true =>
    have hlt := Fi.tk_lt hk
    have hp := Fi.pos_drop (s := s) (n := n + 1) (by omega)
    rw [hk, if_pos rfl] at c1
    rw [if_pos rfl, List.drop_drop]
    dsimp only
    rw [hp]
    refine CallsC.of Try.call21 Try.func21 rfl Try.ntmps21 rfl fun w0 G0 S0 hs ho => ?_
    exact run trivial
  | false =>
    have hp := Fi.pos_drop (s := s) (n := n) (by omega)
    rw [hk, if_neg (by simp)] at c1
    rw [if_neg (by simp)]
    dsimp only
    rw [hp]
    refine CallsC.of Try.call21 Try.func21 rfl Try.ntmps21 rfl fun w0 G0 S0 hs ho => ?_
    exact run trivial
set_option maxHeartbeats 4000000 in
theorem rdFiltS (d : Nat) (hd : d < 16) (IH : FiltR d) : FiltR (d + 1) := by
  intro g s a ha hsl
  obtain ⟨n, rfl⟩ : ∃ n : Nat, a = (n : Int) := ⟨a.toNat, by omega⟩
  have c1 := rdSign g s n 0 40 (by omega) hsl
  have c2 : ∀ (a : Int), CallsC Try.prog 22 [Is (pAt g 0), okI .i64 3] [RX16 g s a 0] (fun _ => TAgg (Fi.cF Fi.zeroF)) (fun _ => [RX16 g s a 3]) := fun a => rdBad g s a 0 3
  rw [Int.toNat_natCast]
  rw [Fi.rf_S]
  cases hk : Fi.tk [40] (s.drop n) with
  | true =>
    have hlt := Fi.tk_lt hk
    rw [hk, if_pos rfl] at c1
    rw [if_pos rfl]
    have e1 : s.drop ((n : Int) + 1).toNat = s.drop (n + 1) := by rw [show ((n : Int) + 1).toNat = n + 1 by omega]
    have T : ∀ c : UInt8, CallsC Try.prog 34 [Is (pAt g 0), okI .u8 (c.toNat : Int)] [RX16 g s ((n : Int) + 1) 0] (fun _ => Is (.bool (Fi.tk [c] (s.drop (n + 1))))) (fun _ => [RX16 g s (if Fi.tk [c] (s.drop (n + 1)) = true then (n : Int) + 1 + 1 else (n : Int) + 1) 0]) := fun c => rdSign g s (n + 1) 0 c (by omega) hsl
    have K : ∀ k : Int, n + 1 < s.length → CallsC Try.prog 35 [Is (pAt g 0), okI .i64 k, okI .i64 (17 - ((d + 1 : Nat) : Int))] [RX16 g s ((n : Int) + 1 + 1) 0] (fun _ => TAgg (Fi.cF (Fi.rKids (Fi.rFilt d) k ((s.drop (n + 1)).drop 1)).1)) (fun _ => [RX16 g s (Fi.posI s (Fi.rKids (Fi.rFilt d) k ((s.drop (n + 1)).drop 1)).2.1) (Fi.rKids (Fi.rFilt d) k ((s.drop (n + 1)).drop 1)).2.2]) := fun k hlt2 => by
      have := rdKids d hd IH g s ((n : Int) + 1 + 1) k (by omega) hsl
      rwa [show ((n : Int) + 1 + 1).toNat = n + 1 + 1 by omega, ← List.drop_drop] at this
    have hdd : (16 : Int) ≥ 17 - ((d + 1 : Nat) : Int) := by omega
    unfold Fi.rBody
    rw [show (s.drop n).drop 1 = s.drop (n + 1) from List.drop_drop]
    have T1 : CallsC Try.prog 34 [Is (pAt g 0), okI .u8 38] _ _ _ := T 38
    have T2 : CallsC Try.prog 34 [Is (pAt g 0), okI .u8 124] _ _ _ := T 124
    have T3 : CallsC Try.prog 34 [Is (pAt g 0), okI .u8 33] _ _ _ := T 33
    have hsK : ∀ k : Int, (Fi.rKids (Fi.rFilt d) k ((s.drop (n + 1)).drop 1)).2.1 <:+ s := fun k => (Fi.rLoop_suf (Fi.rFilt_suf d) _ _ _).trans ((List.drop_suffix 1 _).trans (Fi.suf_drop s _))
    cases h1 : Fi.tk [38] (s.drop (n + 1)) with
    | true =>
      rw [h1, if_pos rfl] at T1
      have K0 := K 0 (Fi.tk_lt h1)
      have hsx := hsK 0
      clear T T2 T3 K hsK
      rw [if_pos rfl]
      generalize hx : Fi.rKids (Fi.rFilt d) 0 ((s.drop (n + 1)).drop 1) = x at K0 hsx ⊢
      have su := Sure.mk' [45, 46, 47]
      have st := Stop.mk' 13
      refine CallsC.of Try.call21 Try.func21 rfl Try.ntmps21 rfl fun w0 G0 S0 hs ho => ?_
      refine run ?_
      intros
      refine HTs.mk ?_
      clear st K0 T1
      have hpx := Fi.pos_bd hsx
      have C1 : x.2.2 = 0 → CallsC Try.prog 34 [Is (pAt g 0), okI .u8 41] [RX16 g s (Fi.posI s x.2.1) 0] (fun _ => Is (.bool (Fi.tk [41] x.2.1))) (fun _ => [RX16 g s (if Fi.tk [41] x.2.1 = true then Fi.posI s x.2.1 + 1 else Fi.posI s x.2.1) 0]) := fun _ => by
        have := rdSign g s (Fi.posI s x.2.1).toNat 0 41 (by omega) hsl
        rw [Fi.drop_pos hsx, Int.toNat_of_nonneg hpx.1] at this
        exact this
      by_cases h0 : x.2.2 = 0
      · specialize C1 h0
        cases hc : Fi.tk [41] x.2.1 with
        | true =>
          have e : Fi.closeR x = (x.1, x.2.1.drop 1, 0) := by unfold Fi.closeR; rw [if_pos h0, if_pos hc]
          have hpq : Fi.posI s (x.2.1.drop 1) = Fi.posI s x.2.1 + 1 := by
            have := Fi.tk_len1 hc
            rw [Fi.posI_def, Fi.posI_def, List.length_drop]; omega
          rw [e]
          dsimp only
          rw [hpq, h0]
          rw [hc, if_pos rfl] at C1
          clear c2
          exact run trivial
        | false =>
          have e : Fi.closeR x = (Fi.zeroF, x.2.1, 3) := by unfold Fi.closeR; rw [if_pos h0, if_neg (by rw [hc]; simp)]
          rw [e]
          dsimp only
          rw [h0]
          rw [hc, if_neg (by simp)] at C1
          exact run trivial
      · have e : Fi.closeR x = x := by unfold Fi.closeR; rw [if_neg h0]
        rw [e]
        clear C1 c2
        first | (refine run ?_; (and_intros <;> intros <;> first | rfl | (rw [Fi.cF_eq]; rfl) | (exfalso; grind))) | exact run trivial
    | false =>
      rw [h1, if_neg (by simp)] at T1
      rw [if_neg (by simp)]
      cases h2 : Fi.tk [124] (s.drop (n + 1)) with
      | true =>
        rw [h2, if_pos rfl] at T2
        have K0 := K 1 (Fi.tk_lt h2)
        have hsx := hsK 1
        clear T T3 K hsK
        rw [if_pos rfl]
        generalize hx : Fi.rKids (Fi.rFilt d) 1 ((s.drop (n + 1)).drop 1) = x at K0 hsx ⊢
        have su := Sure.mk' [45, 46, 47]
        have st := Stop.mk' 13
        refine CallsC.of Try.call21 Try.func21 rfl Try.ntmps21 rfl fun w0 G0 S0 hs ho => ?_
        refine run ?_
        intros
        refine HTs.mk ?_
        clear st K0 T1
        have hpx := Fi.pos_bd hsx
        have C1 : x.2.2 = 0 → CallsC Try.prog 34 [Is (pAt g 0), okI .u8 41] [RX16 g s (Fi.posI s x.2.1) 0] (fun _ => Is (.bool (Fi.tk [41] x.2.1))) (fun _ => [RX16 g s (if Fi.tk [41] x.2.1 = true then Fi.posI s x.2.1 + 1 else Fi.posI s x.2.1) 0]) := fun _ => by
          have := rdSign g s (Fi.posI s x.2.1).toNat 0 41 (by omega) hsl
          rw [Fi.drop_pos hsx, Int.toNat_of_nonneg hpx.1] at this
          exact this
        by_cases h0 : x.2.2 = 0
        · specialize C1 h0
          cases hc : Fi.tk [41] x.2.1 with
          | true =>
            have e : Fi.closeR x = (x.1, x.2.1.drop 1, 0) := by unfold Fi.closeR; rw [if_pos h0, if_pos hc]
            have hpq : Fi.posI s (x.2.1.drop 1) = Fi.posI s x.2.1 + 1 := by
              have := Fi.tk_len1 hc
              rw [Fi.posI_def, Fi.posI_def, List.length_drop]; omega
            rw [e]
            dsimp only
            rw [hpq, h0]
            rw [hc, if_pos rfl] at C1
            clear c2
            first | (refine run ?_; (and_intros <;> intros <;> first | rfl | (rw [Fi.cF_eq]; rfl) | (exfalso; grind))) | exact run trivial
          | false =>
            have e : Fi.closeR x = (Fi.zeroF, x.2.1, 3) := by unfold Fi.closeR; rw [if_pos h0, if_neg (by rw [hc]; simp)]
            rw [e]
            dsimp only
            rw [h0]
            rw [hc, if_neg (by simp)] at C1
            first | (refine run ?_; (and_intros <;> intros <;> first | rfl | (rw [Fi.cF_eq]; rfl) | (exfalso; grind))) | exact run trivial
        · have e : Fi.closeR x = x := by unfold Fi.closeR; rw [if_neg h0]
          rw [e]
          clear C1 c2
          first | (refine run ?_; (and_intros <;> intros <;> first | rfl | (rw [Fi.cF_eq]; rfl) | (exfalso; grind))) | exact run trivial
      | false =>
        rw [h2, if_neg (by simp)] at T2
        rw [if_neg (by simp)]
        cases h3 : Fi.tk [33] (s.drop (n + 1)) with
        | true =>
          rw [h3, if_pos rfl] at T3
          have hlt3 := Fi.tk_lt h3
          have K0 := IH g s ((n : Int) + 1 + 1) (by omega) hsl
          rw [show ((n : Int) + 1 + 1).toNat = n + 1 + 1 by omega, ← List.drop_drop, show (17 : Int) - (d : Int) = 17 - ((d + 1 : Nat) : Int) + 1 by omega] at K0
          have hsx := (Fi.rFilt_suf d ((s.drop (n + 1)).drop 1)).trans ((List.drop_suffix 1 _).trans (Fi.suf_drop s _))
          clear T K hsK
          rw [if_pos rfl]
          generalize hy : Fi.rFilt d ((s.drop (n + 1)).drop 1) = y at K0 hsx ⊢
          have mu := Mut.mk' [37]
          have su := Sure.mk' [45, 46, 47]
          have st := Stop.mk' 13
          refine CallsC.of Try.call21 Try.func21 rfl Try.ntmps21 rfl fun w0 G0 S0 hs ho => ?_
          refine run ?_
          intros
          refine HTs.mk ?_
          clear st K0 T1
          have hpx := Fi.pos_bd hsx
          have C1 : y.2.2 = 0 → CallsC Try.prog 34 [Is (pAt g 0), okI .u8 41] [RX16 g s (Fi.posI s y.2.1) 0] (fun _ => Is (.bool (Fi.tk [41] y.2.1))) (fun _ => [RX16 g s (if Fi.tk [41] y.2.1 = true then Fi.posI s y.2.1 + 1 else Fi.posI s y.2.1) 0]) := fun _ => by
            have := rdSign g s (Fi.posI s y.2.1).toNat 0 41 (by omega) hsl
            rw [Fi.drop_pos hsx, Int.toNat_of_nonneg hpx.1] at this
            exact this
          by_cases h0 : y.2.2 = 0
          · specialize C1 h0
            cases hc : Fi.tk [41] y.2.1 with
            | true =>
              have e : Fi.closeR (Fi.Fil.mk 2 [] [] [] [y.1], y.2) = (Fi.Fil.mk 2 [] [] [] [y.1], y.2.1.drop 1, 0) := by unfold Fi.closeR; rw [if_pos h0, if_pos hc]
              have hpq : Fi.posI s (y.2.1.drop 1) = Fi.posI s y.2.1 + 1 := by
                have := Fi.tk_len1 hc
                rw [Fi.posI_def, Fi.posI_def, List.length_drop]; omega
              rw [e]
              dsimp only
              rw [hpq, h0]
              rw [hc, if_pos rfl] at C1
              clear c2
              first | (refine run ?_; (and_intros <;> intros <;> first | rfl | (rw [Fi.cF_eq]; rfl) | (exfalso; grind))) | exact run trivial
            | false =>
              have e : Fi.closeR (Fi.Fil.mk 2 [] [] [] [y.1], y.2) = (Fi.zeroF, y.2.1, 3) := by unfold Fi.closeR; rw [if_pos h0, if_neg (by rw [hc]; simp)]
              rw [e]
              dsimp only
              rw [h0]
              rw [hc, if_neg (by simp)] at C1
              first | (refine run ?_; (and_intros <;> intros <;> first | rfl | (rw [Fi.cF_eq]; rfl) | (exfalso; grind))) | exact run trivial
          · have e : Fi.closeR (Fi.Fil.mk 2 [] [] [] [y.1], y.2) = (Fi.Fil.mk 2 [] [] [] [y.1], y.2) := by unfold Fi.closeR; rw [if_neg h0]
            rw [e]
            clear C1 c2
            first | (refine run ?_; (and_intros <;> intros <;> first | rfl | (rw [Fi.cF_eq]; rfl) | (exfalso; grind))) | exact run trivial
        | false =>
          rw [h3, if_neg (by simp)] at T3
          rw [if_neg (by simp)]
          have K0 := rdItem g s (n + 1) (by omega) hsl
          have hsx := (Fi.rItem_suf (s.drop (n + 1))).trans (Fi.suf_drop s _)
          clear T K hsK
          rw [show ((n + 1 : Nat) : Int) = (n : Int) + 1 from rfl] at K0
          generalize hx : Fi.rItem (s.drop (n + 1)) = x at K0 hsx ⊢
          have su := Sure.mk' [45, 46, 47]
          have st := Stop.mk' 13
          refine CallsC.of Try.call21 Try.func21 rfl Try.ntmps21 rfl fun w0 G0 S0 hs ho => ?_
          refine run ?_
          intros
          refine HTs.mk ?_
          clear st K0 T1
          have hpx := Fi.pos_bd hsx
          have C1 : x.2.2 = 0 → CallsC Try.prog 34 [Is (pAt g 0), okI .u8 41] [RX16 g s (Fi.posI s x.2.1) 0] (fun _ => Is (.bool (Fi.tk [41] x.2.1))) (fun _ => [RX16 g s (if Fi.tk [41] x.2.1 = true then Fi.posI s x.2.1 + 1 else Fi.posI s x.2.1) 0]) := fun _ => by
            have := rdSign g s (Fi.posI s x.2.1).toNat 0 41 (by omega) hsl
            rw [Fi.drop_pos hsx, Int.toNat_of_nonneg hpx.1] at this
            exact this
          by_cases h0 : x.2.2 = 0
          · specialize C1 h0
            cases hc : Fi.tk [41] x.2.1 with
            | true =>
              have e : Fi.closeR x = (x.1, x.2.1.drop 1, 0) := by unfold Fi.closeR; rw [if_pos h0, if_pos hc]
              have hpq : Fi.posI s (x.2.1.drop 1) = Fi.posI s x.2.1 + 1 := by
                have := Fi.tk_len1 hc
                rw [Fi.posI_def, Fi.posI_def, List.length_drop]; omega
              rw [e]
              dsimp only
              rw [hpq, h0]
              rw [hc, if_pos rfl] at C1
              clear c2
              first | (refine run ?_; (and_intros <;> intros <;> first | rfl | (rw [Fi.cF_eq]; rfl) | (exfalso; grind))) | exact run trivial
            | false =>
              have e : Fi.closeR x = (Fi.zeroF, x.2.1, 3) := by unfold Fi.closeR; rw [if_pos h0, if_neg (by rw [hc]; simp)]
              rw [e]
              dsimp only
              rw [h0]
              rw [hc, if_neg (by simp)] at C1
              first | (refine run ?_; (and_intros <;> intros <;> first | rfl | (rw [Fi.cF_eq]; rfl) | (exfalso; grind))) | exact run trivial
          · have e : Fi.closeR x = x := by unfold Fi.closeR; rw [if_neg h0]
            rw [e]
            clear C1 c2
            first | (refine run ?_; (and_intros <;> intros <;> first | rfl | (rw [Fi.cF_eq]; rfl) | (exfalso; grind))) | exact run trivial
  | false =>
    have hp := Fi.pos_drop (s := s) (n := n) (by omega)
    rw [hk, if_neg (by simp)] at c1
    rw [if_neg (by simp)]
    dsimp only
    rw [hp]
    refine CallsC.of Try.call21 Try.func21 rfl Try.ntmps21 rfl fun w0 G0 S0 hs ho => ?_
    first | (refine run ?_; (and_intros <;> intros <;> first | rfl | (rw [Fi.cF_eq]; rfl) | (exfalso; grind))) | exact run trivial
theorem rdFilt : ∀ d : Nat, d ≤ 16 → FiltR d
  | 0, _ => rdFilt0
  | d + 1, h => rdFiltS d (by omega) (rdFilt d (by omega))
end Go.Proofs.Ythjckklijlfghaa
