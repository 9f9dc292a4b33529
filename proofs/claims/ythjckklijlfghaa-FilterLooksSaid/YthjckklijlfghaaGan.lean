/-
  The contract of the program's Is of filters: And, Or, Not.
  The contract of the program's Is of filters: Equal, Greater, Less.
  The contract of the program's Is of filters: Sub, Present, others.
  The contract of the program's Is of filters: every filter, however deep.
  The contracts of a value as a text: the program's and the document's.
  The contracts of strings.Join: a Builder that is given room first.
  The contracts of the program's print of filters.
  The contracts of the program's parser of filters.
-/
import Derived.Test.YthjckklijlfghaaGam
import Derived.Test.YthjckklijlfghaaGak
import Derived.Test.YthjckklijlfghaaGal
set_option linter.unusedSimpArgs false
set_option linter.unusedVariables false
set_option linter.unusedVariables false
set_option linter.unusedVariables false
namespace Go.Proofs.Ythjckklijlfghaa
open Go.Vk
attribute [local irreducible] HT HX RegS RegA RegM OpP OpC AltT
attribute [local irreducible] Dn.typB Fi.mayF Fi.mayL Fi.mayIx Fi.badIx Fi.subsB
set_option maxHeartbeats 8000000 in
theorem fpMay_0 (t v : List UInt8) (s : List (List UInt8)) (ks : List Fi.Fil) (hk : ∀ f ∈ ks, MayC f) (hw : Fi.wt (.mk 0 t v s ks) ≤ 1000000) : MayC (.mk 0 t v s ks) := by
  intro deep g left hd h0 h1
  have hw' := hw
  rw [Fi.wt] at hw'
  have w1 := wtL_len ks
  have w2 := subsW_len s
  rw [Fi.mayF_mk, Fi.cF_open]
  dsimp only [Fi.Fil.kind, Fi.Fil.typ, Fi.Fil.val, Fi.Fil.subs, Fi.Fil.kids]
  have c1 := dnType t
  have c2 := fpSubs s
  by_cases hout : left - 1 < 0 ∨ 16 ≤ deep
  · rw [if_pos hout]
    clear hk
    refine CallsC.of Try.call26 Try.func26 rfl Try.ntmps26 rfl fun w0 G0 S0 hs ho => ?_
    exact run trivial
  · rw [if_neg hout]
    have c3 := anyFil (f := 44) (Cs := [TPc [okI .i64 (deep : Int)], TPc [Is (pAt g 0)]]) ks (deep + 1) g (left - 1) (by omega) (by omega) (fun k hk' n n0 n1 => fpMay1 k (hk k hk') deep g n (by omega) n0 n1)
    clear hk
    have su := Sure.mk' [86, 87, 88, 89, 90]
    rw [Fi.mayH_0 (by simp)]
    have st := Stop.mk' 18
    refine CallsC.of Try.call26 Try.func26 rfl Try.ntmps26 rfl fun w0 G0 S0 hs ho => ?_
    refine run ?_
    intros
    refine HTs.mk ?_
    clear st
    cases hB : (decide (t = []) && decide (v = []) && decide ((s.length : Int) = 0) && (!decide ((ks.length : Int) = 0) && (decide ((0 : Int) ≠ 2) || decide ((ks.length : Int) = 1)))) with
    | true =>
      rw [if_pos rfl]
      refine run ?_
      intros
      rw [hB]; simp
    | false =>
      rw [if_neg (by simp)]
      refine run ?_
      intros
      rw [hB]; simp
set_option maxHeartbeats 8000000 in
theorem fpMay_1 (t v : List UInt8) (s : List (List UInt8)) (ks : List Fi.Fil) (hk : ∀ f ∈ ks, MayC f) (hw : Fi.wt (.mk 1 t v s ks) ≤ 1000000) : MayC (.mk 1 t v s ks) := by
  intro deep g left hd h0 h1
  have hw' := hw
  rw [Fi.wt] at hw'
  have w1 := wtL_len ks
  have w2 := subsW_len s
  rw [Fi.mayF_mk, Fi.cF_open]
  dsimp only [Fi.Fil.kind, Fi.Fil.typ, Fi.Fil.val, Fi.Fil.subs, Fi.Fil.kids]
  have c1 := dnType t
  have c2 := fpSubs s
  by_cases hout : left - 1 < 0 ∨ 16 ≤ deep
  · rw [if_pos hout]
    clear hk
    refine CallsC.of Try.call26 Try.func26 rfl Try.ntmps26 rfl fun w0 G0 S0 hs ho => ?_
    exact run trivial
  · rw [if_neg hout]
    have c3 := anyFil (f := 44) (Cs := [TPc [okI .i64 (deep : Int)], TPc [Is (pAt g 0)]]) ks (deep + 1) g (left - 1) (by omega) (by omega) (fun k hk' n n0 n1 => fpMay1 k (hk k hk') deep g n (by omega) n0 n1)
    clear hk
    have su := Sure.mk' [86, 87, 88, 89, 90]
    rw [Fi.mayH_0 (by simp)]
    have st := Stop.mk' 18
    refine CallsC.of Try.call26 Try.func26 rfl Try.ntmps26 rfl fun w0 G0 S0 hs ho => ?_
    refine run ?_
    intros
    refine HTs.mk ?_
    clear st
    cases hB : (decide (t = []) && decide (v = []) && decide ((s.length : Int) = 0) && (!decide ((ks.length : Int) = 0) && (decide ((1 : Int) ≠ 2) || decide ((ks.length : Int) = 1)))) with
    | true =>
      rw [if_pos rfl]
      refine run ?_
      intros
      rw [hB]; simp
    | false =>
      rw [if_neg (by simp)]
      refine run ?_
      intros
      rw [hB]; simp
set_option maxHeartbeats 8000000 in
theorem fpMay_2 (t v : List UInt8) (s : List (List UInt8)) (ks : List Fi.Fil) (hk : ∀ f ∈ ks, MayC f) (hw : Fi.wt (.mk 2 t v s ks) ≤ 1000000) : MayC (.mk 2 t v s ks) := by
  intro deep g left hd h0 h1
  have hw' := hw
  rw [Fi.wt] at hw'
  have w1 := wtL_len ks
  have w2 := subsW_len s
  rw [Fi.mayF_mk, Fi.cF_open]
  dsimp only [Fi.Fil.kind, Fi.Fil.typ, Fi.Fil.val, Fi.Fil.subs, Fi.Fil.kids]
  have c1 := dnType t
  have c2 := fpSubs s
  by_cases hout : left - 1 < 0 ∨ 16 ≤ deep
  · rw [if_pos hout]
    clear hk
    refine CallsC.of Try.call26 Try.func26 rfl Try.ntmps26 rfl fun w0 G0 S0 hs ho => ?_
    exact run trivial
  · rw [if_neg hout]
    have c3 := anyFil (f := 44) (Cs := [TPc [okI .i64 (deep : Int)], TPc [Is (pAt g 0)]]) ks (deep + 1) g (left - 1) (by omega) (by omega) (fun k hk' n n0 n1 => fpMay1 k (hk k hk') deep g n (by omega) n0 n1)
    clear hk
    have su := Sure.mk' [86, 87, 88, 89, 90]
    rw [Fi.mayH_0 (by simp)]
    have st := Stop.mk' 18
    refine CallsC.of Try.call26 Try.func26 rfl Try.ntmps26 rfl fun w0 G0 S0 hs ho => ?_
    refine run ?_
    intros
    refine HTs.mk ?_
    clear st
    cases hB : (decide (t = []) && decide (v = []) && decide ((s.length : Int) = 0) && (!decide ((ks.length : Int) = 0) && (decide ((2 : Int) ≠ 2) || decide ((ks.length : Int) = 1)))) with
    | true =>
      rw [if_pos rfl]
      refine run ?_
      intros
      rw [hB]; simp
    | false =>
      rw [if_neg (by simp)]
      refine run ?_
      intros
      rw [hB]; simp
end Go.Proofs.Ythjckklijlfghaa
set_option linter.unusedVariables false
set_option linter.unusedVariables false
namespace Go.Proofs.Ythjckklijlfghaa
open Go.Vk
attribute [local irreducible] HT HX RegS RegA RegM OpP OpC AltT
attribute [local irreducible] Dn.typB Fi.mayF Fi.mayL Fi.mayIx Fi.badIx Fi.subsB
set_option maxHeartbeats 8000000 in
theorem fpMay_3 (t v : List UInt8) (s : List (List UInt8)) (ks : List Fi.Fil) (hk : ∀ f ∈ ks, MayC f) (hw : Fi.wt (.mk 3 t v s ks) ≤ 1000000) : MayC (.mk 3 t v s ks) := by
  intro deep g left hd h0 h1
  have hw' := hw
  rw [Fi.wt] at hw'
  have w1 := wtL_len ks
  have w2 := subsW_len s
  rw [Fi.mayF_mk, Fi.cF_open]
  dsimp only [Fi.Fil.kind, Fi.Fil.typ, Fi.Fil.val, Fi.Fil.subs, Fi.Fil.kids]
  have c1 := dnType t
  have c2 := fpSubs s
  by_cases hout : left - 1 < 0 ∨ 16 ≤ deep
  · rw [if_pos hout]
    clear hk
    refine CallsC.of Try.call26 Try.func26 rfl Try.ntmps26 rfl fun w0 G0 S0 hs ho => ?_
    exact run trivial
  · rw [if_neg hout]
    have c3 := anyFil (f := 44) (Cs := [TPc [okI .i64 (deep : Int)], TPc [Is (pAt g 0)]]) ks (deep + 1) g (left - 1) (by omega) (by omega) (fun k hk' n n0 n1 => fpMay1 k (hk k hk') deep g n (by omega) n0 n1)
    clear hk
    have su := Sure.mk' [86, 87, 88, 89, 90]
    rw [Fi.mayH_3 (by simp)]
    have st := Stop.mk' 18
    refine CallsC.of Try.call26 Try.func26 rfl Try.ntmps26 rfl fun w0 G0 S0 hs ho => ?_
    refine run ?_
    intros
    refine HTs.mk ?_
    clear st
    cases hB : (Dn.typB t && decide ((v.length : Int) ≤ 256) && decide ((s.length : Int) = 0) && decide ((ks.length : Int) = 0)) with
    | true =>
      rw [if_pos rfl]
      refine run ?_
      intros
      rw [hB]; simp
    | false =>
      rw [if_neg (by simp)]
      refine run ?_
      intros
      rw [hB]; simp
set_option maxHeartbeats 8000000 in
theorem fpMay_5 (t v : List UInt8) (s : List (List UInt8)) (ks : List Fi.Fil) (hk : ∀ f ∈ ks, MayC f) (hw : Fi.wt (.mk 5 t v s ks) ≤ 1000000) : MayC (.mk 5 t v s ks) := by
  intro deep g left hd h0 h1
  have hw' := hw
  rw [Fi.wt] at hw'
  have w1 := wtL_len ks
  have w2 := subsW_len s
  rw [Fi.mayF_mk, Fi.cF_open]
  dsimp only [Fi.Fil.kind, Fi.Fil.typ, Fi.Fil.val, Fi.Fil.subs, Fi.Fil.kids]
  have c1 := dnType t
  have c2 := fpSubs s
  by_cases hout : left - 1 < 0 ∨ 16 ≤ deep
  · rw [if_pos hout]
    clear hk
    refine CallsC.of Try.call26 Try.func26 rfl Try.ntmps26 rfl fun w0 G0 S0 hs ho => ?_
    exact run trivial
  · rw [if_neg hout]
    have c3 := anyFil (f := 44) (Cs := [TPc [okI .i64 (deep : Int)], TPc [Is (pAt g 0)]]) ks (deep + 1) g (left - 1) (by omega) (by omega) (fun k hk' n n0 n1 => fpMay1 k (hk k hk') deep g n (by omega) n0 n1)
    clear hk
    have su := Sure.mk' [86, 87, 88, 89, 90]
    rw [Fi.mayH_3 (by simp)]
    have st := Stop.mk' 18
    refine CallsC.of Try.call26 Try.func26 rfl Try.ntmps26 rfl fun w0 G0 S0 hs ho => ?_
    refine run ?_
    intros
    refine HTs.mk ?_
    clear st
    cases hB : (Dn.typB t && decide ((v.length : Int) ≤ 256) && decide ((s.length : Int) = 0) && decide ((ks.length : Int) = 0)) with
    | true =>
      rw [if_pos rfl]
      refine run ?_
      intros
      rw [hB]; simp
    | false =>
      rw [if_neg (by simp)]
      refine run ?_
      intros
      rw [hB]; simp
set_option maxHeartbeats 8000000 in
theorem fpMay_6 (t v : List UInt8) (s : List (List UInt8)) (ks : List Fi.Fil) (hk : ∀ f ∈ ks, MayC f) (hw : Fi.wt (.mk 6 t v s ks) ≤ 1000000) : MayC (.mk 6 t v s ks) := by
  intro deep g left hd h0 h1
  have hw' := hw
  rw [Fi.wt] at hw'
  have w1 := wtL_len ks
  have w2 := subsW_len s
  rw [Fi.mayF_mk, Fi.cF_open]
  dsimp only [Fi.Fil.kind, Fi.Fil.typ, Fi.Fil.val, Fi.Fil.subs, Fi.Fil.kids]
  have c1 := dnType t
  have c2 := fpSubs s
  by_cases hout : left - 1 < 0 ∨ 16 ≤ deep
  · rw [if_pos hout]
    clear hk
    refine CallsC.of Try.call26 Try.func26 rfl Try.ntmps26 rfl fun w0 G0 S0 hs ho => ?_
    exact run trivial
  · rw [if_neg hout]
    have c3 := anyFil (f := 44) (Cs := [TPc [okI .i64 (deep : Int)], TPc [Is (pAt g 0)]]) ks (deep + 1) g (left - 1) (by omega) (by omega) (fun k hk' n n0 n1 => fpMay1 k (hk k hk') deep g n (by omega) n0 n1)
    clear hk
    have su := Sure.mk' [86, 87, 88, 89, 90]
    rw [Fi.mayH_3 (by simp)]
    have st := Stop.mk' 18
    refine CallsC.of Try.call26 Try.func26 rfl Try.ntmps26 rfl fun w0 G0 S0 hs ho => ?_
    refine run ?_
    intros
    refine HTs.mk ?_
    clear st
    cases hB : (Dn.typB t && decide ((v.length : Int) ≤ 256) && decide ((s.length : Int) = 0) && decide ((ks.length : Int) = 0)) with
    | true =>
      rw [if_pos rfl]
      refine run ?_
      intros
      rw [hB]; simp
    | false =>
      rw [if_neg (by simp)]
      refine run ?_
      intros
      rw [hB]; simp
end Go.Proofs.Ythjckklijlfghaa
set_option linter.unusedVariables false
set_option linter.unusedVariables false
namespace Go.Proofs.Ythjckklijlfghaa
open Go.Vk
attribute [local irreducible] HT HX RegS RegA RegM OpP OpC AltT
attribute [local irreducible] Dn.typB Fi.mayF Fi.mayL Fi.mayIx Fi.badIx Fi.subsB
set_option maxHeartbeats 8000000 in
theorem fpMay_4 (t v : List UInt8) (s : List (List UInt8)) (ks : List Fi.Fil) (hk : ∀ f ∈ ks, MayC f) (hw : Fi.wt (.mk 4 t v s ks) ≤ 1000000) : MayC (.mk 4 t v s ks) := by
  intro deep g left hd h0 h1
  have hw' := hw
  rw [Fi.wt] at hw'
  have w1 := wtL_len ks
  have w2 := subsW_len s
  rw [Fi.mayF_mk, Fi.cF_open]
  dsimp only [Fi.Fil.kind, Fi.Fil.typ, Fi.Fil.val, Fi.Fil.subs, Fi.Fil.kids]
  have c1 := dnType t
  have c2 := fpSubs s
  by_cases hout : left - 1 < 0 ∨ 16 ≤ deep
  · rw [if_pos hout]
    clear hk
    refine CallsC.of Try.call26 Try.func26 rfl Try.ntmps26 rfl fun w0 G0 S0 hs ho => ?_
    exact run trivial
  · rw [if_neg hout]
    have c3 := anyFil (f := 44) (Cs := [TPc [okI .i64 (deep : Int)], TPc [Is (pAt g 0)]]) ks (deep + 1) g (left - 1) (by omega) (by omega) (fun k hk' n n0 n1 => fpMay1 k (hk k hk') deep g n (by omega) n0 n1)
    clear hk
    have su := Sure.mk' [86, 87, 88, 89, 90]
    rw [Fi.mayH_4]
    have st := Stop.mk' 18
    refine CallsC.of Try.call26 Try.func26 rfl Try.ntmps26 rfl fun w0 G0 S0 hs ho => ?_
    refine run ?_
    intros
    refine HTs.mk ?_
    clear st
    cases hB : (Dn.typB t && decide (v = []) && Fi.subsB s && decide ((ks.length : Int) = 0)) with
    | true =>
      rw [if_pos rfl]
      refine run ?_
      intros
      rw [hB]; simp
    | false =>
      rw [if_neg (by simp)]
      refine run ?_
      intros
      rw [hB]; simp
set_option maxHeartbeats 8000000 in
theorem fpMay_7 (t v : List UInt8) (s : List (List UInt8)) (ks : List Fi.Fil) (hk : ∀ f ∈ ks, MayC f) (hw : Fi.wt (.mk 7 t v s ks) ≤ 1000000) : MayC (.mk 7 t v s ks) := by
  intro deep g left hd h0 h1
  have hw' := hw
  rw [Fi.wt] at hw'
  have w1 := wtL_len ks
  have w2 := subsW_len s
  rw [Fi.mayF_mk, Fi.cF_open]
  dsimp only [Fi.Fil.kind, Fi.Fil.typ, Fi.Fil.val, Fi.Fil.subs, Fi.Fil.kids]
  have c1 := dnType t
  have c2 := fpSubs s
  by_cases hout : left - 1 < 0 ∨ 16 ≤ deep
  · rw [if_pos hout]
    clear hk
    refine CallsC.of Try.call26 Try.func26 rfl Try.ntmps26 rfl fun w0 G0 S0 hs ho => ?_
    exact run trivial
  · rw [if_neg hout]
    have c3 := anyFil (f := 44) (Cs := [TPc [okI .i64 (deep : Int)], TPc [Is (pAt g 0)]]) ks (deep + 1) g (left - 1) (by omega) (by omega) (fun k hk' n n0 n1 => fpMay1 k (hk k hk') deep g n (by omega) n0 n1)
    clear hk
    have su := Sure.mk' [86, 87, 88, 89, 90]
    rw [Fi.mayH_7]
    have st := Stop.mk' 18
    refine CallsC.of Try.call26 Try.func26 rfl Try.ntmps26 rfl fun w0 G0 S0 hs ho => ?_
    refine run ?_
    intros
    refine HTs.mk ?_
    clear st
    cases hB : (Dn.typB t && decide (v = []) && decide ((s.length : Int) = 0) && decide ((ks.length : Int) = 0)) with
    | true =>
      rw [if_pos rfl]
      refine run ?_
      intros
      rw [hB]; simp
    | false =>
      rw [if_neg (by simp)]
      refine run ?_
      intros
      rw [hB]; simp
set_option maxHeartbeats 8000000 in
theorem fpMay_x (k : Int) (hkk : ¬ (k = 0 ∨ k = 1 ∨ k = 2) ∧ ¬ (k = 3 ∨ k = 5 ∨ k = 6) ∧ k ≠ 4 ∧ k ≠ 7) (t v : List UInt8) (s : List (List UInt8)) (ks : List Fi.Fil) (hk : ∀ f ∈ ks, MayC f) (hw : Fi.wt (.mk k t v s ks) ≤ 1000000) : MayC (.mk k t v s ks) := by
  intro deep g left hd h0 h1
  have hw' := hw
  rw [Fi.wt] at hw'
  have w1 := wtL_len ks
  have w2 := subsW_len s
  rw [Fi.mayF_mk, Fi.cF_open]
  dsimp only [Fi.Fil.kind, Fi.Fil.typ, Fi.Fil.val, Fi.Fil.subs, Fi.Fil.kids]
  have c1 := dnType t
  have c2 := fpSubs s
  by_cases hout : left - 1 < 0 ∨ 16 ≤ deep
  · rw [if_pos hout]
    clear hk
    refine CallsC.of Try.call26 Try.func26 rfl Try.ntmps26 rfl fun w0 G0 S0 hs ho => ?_
    exact run trivial
  · rw [if_neg hout]
    have c3 := anyFil (f := 44) (Cs := [TPc [okI .i64 (deep : Int)], TPc [Is (pAt g 0)]]) ks (deep + 1) g (left - 1) (by omega) (by omega) (fun k hk' n n0 n1 => fpMay1 k (hk k hk') deep g n (by omega) n0 n1)
    clear hk
    have su := Sure.mk' [86, 87, 88, 89, 90]
    rw [Fi.mayH_x hkk, if_neg (by simp)]
    clear c3 su
    refine CallsC.of Try.call26 Try.func26 rfl Try.ntmps26 rfl fun w0 G0 S0 hs ho => ?_
    exact run trivial
end Go.Proofs.Ythjckklijlfghaa
set_option linter.unusedVariables false
set_option linter.unusedVariables false
namespace Go.Proofs.Ythjckklijlfghaa
open Go.Vk
attribute [local irreducible] HT HX RegS RegA RegM OpP OpC AltT
attribute [local irreducible] Dn.typB Fi.mayF Fi.mayL Fi.mayIx Fi.badIx Fi.subsB
theorem fpMayS (k : Int) (t v : List UInt8) (s : List (List UInt8)) (ks : List Fi.Fil) (hk : ∀ f ∈ ks, MayC f) (hw : Fi.wt (.mk k t v s ks) ≤ 1000000) : MayC (.mk k t v s ks) := by
  by_cases k0 : k = 0
  · subst k0; exact fpMay_0 t v s ks hk hw
  by_cases k1 : k = 1
  · subst k1; exact fpMay_1 t v s ks hk hw
  by_cases k2 : k = 2
  · subst k2; exact fpMay_2 t v s ks hk hw
  by_cases k3 : k = 3
  · subst k3; exact fpMay_3 t v s ks hk hw
  by_cases k5 : k = 5
  · subst k5; exact fpMay_5 t v s ks hk hw
  by_cases k6 : k = 6
  · subst k6; exact fpMay_6 t v s ks hk hw
  by_cases k4 : k = 4
  · subst k4; exact fpMay_4 t v s ks hk hw
  by_cases k7 : k = 7
  · subst k7; exact fpMay_7 t v s ks hk hw
  · exact fpMay_x k (by omega) t v s ks hk hw
theorem fpMay : ∀ (N : Nat) (f : Fi.Fil), Fi.nodes f ≤ N → Fi.wt f ≤ 1000000 → MayC f
  | 0, f, h, _ => by have := Fi.nodes_pos f; omega
  | N + 1, .mk k t v s ks, h, hw => fpMayS k t v s ks (fun f hf => fpMay N f (by
      have := Fi.kid_nodes hf
      rw [Fi.nodes] at h; omega) (by
      have := wt_kid hf
      rw [Fi.wt] at hw; omega)) hw
theorem fpIs (f : Fi.Fil) (hw : Fi.wt f ≤ 1000000) : CFn Try.prog 15 [TAgg (Fi.cF f)] (Is (.bool (Fi.isF f))) := by
  have c1 := fun g => fpMay (Fi.nodes f) f (Nat.le_refl _) hw 0 g 64 (by decide) (by decide) (by decide)
  rw [Fi.may_isF] at c1
  refine CallsC.of Try.call15 Try.func15 rfl Try.ntmps15 rfl fun w0 G0 S0 hs ho => ?_
  exact run trivial
end Go.Proofs.Ythjckklijlfghaa
set_option linter.unusedVariables false
namespace Go.Fi
open Go.Vk
open Go.Dn (typB typC halfV)
/-- What is told of so many bytes. -/
def toldR (s : List UInt8) (k : Nat) : List UInt8 := told (s.take k)
theorem toldR_zero (s : List UInt8) : toldR s 0 = [] := rfl
theorem toldR_succ {s : List UInt8} {k : Nat} (h : k < s.length) : toldR s (k + 1) = toldR s k ++ toldC (s.getD k 0) := by
  unfold toldR told
  rw [List.take_add_one, List.flatMap_append, List.getElem?_eq_getElem h, List.getD_eq_getElem?_getD, List.getElem?_eq_getElem h]
  simp
theorem toldR_all (s : List UInt8) : toldR s s.length = told s := by unfold toldR; rw [List.take_length]
theorem toldC_len (c : UInt8) : (toldC c).length ≤ 3 := by unfold toldC; split <;> simp
theorem told_len : ∀ s : List UInt8, (told s).length ≤ 3 * s.length
  | [] => by simp [told]
  | c :: r => by
    have h1 := toldC_len c
    have h2 := told_len r
    unfold told at h2 ⊢
    rw [List.flatMap_cons, List.length_append, List.length_cons]; omega
theorem toldR_len (s : List UInt8) (k : Nat) : (toldR s k).length ≤ 3 * s.length := by
  have h1 := told_len (s.take k)
  have h2 : (s.take k).length ≤ s.length := List.length_take_le' _ _
  unfold toldR; omega
def hexS : List UInt8 := [48, 49, 50, 51, 52, 53, 54, 55, 56, 57, 97, 98, 99, 100, 101, 102]
theorem hexS_tab : ∀ n : Fin 16, hexS.getD n.val 0 = hexC n.val ∧ b8 (Dn.hexI (n.val : Int)) = hexC n.val := by decide +kernel
theorem hexS_at {n : Nat} (h : n < 16) : hexS.getD n 0 = hexC n := (hexS_tab ⟨n, h⟩).1
theorem hexI_at {n : Nat} (h : n < 16) : b8 (Dn.hexI (n : Int)) = hexC n := (hexS_tab ⟨n, h⟩).2
theorem toldC_bar {c : UInt8} (h : barC c = true) : toldC c = [92, hexC (c.toNat / 16), hexC (c.toNat % 16)] := if_pos h
theorem toldC_one {c : UInt8} (h : barC c = false) : toldC c = [c] := if_neg (by rw [h]; simp)
theorem barC_iff (c : UInt8) : barC c = true ↔ ((c.toNat : Int) < 32 ∨ 126 < (c.toNat : Int) ∨ (c.toNat : Int) = 42 ∨ (c.toNat : Int) = 40 ∨ (c.toNat : Int) = 41 ∨ (c.toNat : Int) = 92) := by
  have hcv : ∀ d : UInt8, c = d ↔ ((c.toNat : Int) = (d.toNat : Int)) := fun d => ⟨fun h => by rw [h], fun h => UInt8.toNat_inj.1 (by omega)⟩
  unfold barC
  simp only [Bool.or_eq_true, decide_eq_true_eq, hcv 42, hcv 40, hcv 41, hcv 92]
  constructor
  · rintro (((((h | h) | h) | h) | h) | h)
    · exact .inl h
    · exact .inr (.inl h)
    · exact .inr (.inr (.inl h))
    · exact .inr (.inr (.inr (.inl h)))
    · exact .inr (.inr (.inr (.inr (.inl h))))
    · exact .inr (.inr (.inr (.inr (.inr h))))
  · rintro (h | h | h | h | h | h)
    · exact .inl (.inl (.inl (.inl (.inl h))))
    · exact .inl (.inl (.inl (.inl (.inr h))))
    · exact .inl (.inl (.inl (.inr h)))
    · exact .inl (.inl (.inr h))
    · exact .inl (.inr h)
    · exact .inr h
theorem mark_iff (c : UInt8) : 0 ≤ Lib.indexByte [42, 40, 41, 92] c ↔ ((c.toNat : Int) = 42 ∨ (c.toNat : Int) = 40 ∨ (c.toNat : Int) = 41 ∨ (c.toNat : Int) = 92) := by
  have hcv : ∀ d : UInt8, c = d ↔ ((c.toNat : Int) = (d.toNat : Int)) := fun d => ⟨fun h => by rw [h], fun h => UInt8.toNat_inj.1 (by omega)⟩
  rw [Dn.indexByte_iff]
  simp only [List.mem_cons, List.not_mem_nil, or_false, hcv 42, hcv 40, hcv 41, hcv 92]
  rfl
end Go.Fi
set_option linter.unusedVariables false
namespace Go.Proofs.Ythjckklijlfghaa
open Go.Vk
attribute [local irreducible] HT HX RegS RegA RegM OpP OpC AltT
attribute [local irreducible] Fi.told Fi.toldR Fi.toldC Fi.hexC
theorem rfHex16 (n : Int) (h : 0 ≤ n ∧ n ≤ 15) : CFn Try.prog 63 [okI .u8 n] (okI .u8 (Dn.hexI n)) := by
  refine CallsC.of Try.call63 Try.func63 rfl Try.ntmps63 rfl fun w0 G0 S0 hs ho => ?_
  refine run ?_
  unfold Dn.hexI
  and_intros
  all_goals intros
  all_goals split <;> omega
set_option maxHeartbeats 2000000 in
theorem rfTold16 (v : List UInt8) (hv : v.length ≤ 1048576) : CFn Try.prog 45 [Is (str v)] (Is (str (Fi.told v))) := by
  have c1 := rfHex16
  refine CallsC.of Try.call45 Try.func45 rfl Try.ntmps45 rfl fun w0 G0 S0 hs ho => ?_
  refine run ?_
  refine HT.loopX (σ := (Nat × List UInt8) × Value) [0, 2] (fun t => [(3, TAnd (Is t.2) (TBytes t.1.2)), (4, okI .i64 (t.1.1 : Int))]) (fun t => [ownSl t.2 1 5]) (fun t => t.1.1 ≤ v.length ∧ t.1.2 = Fi.toldR v t.1.1) (fun t => v.length - t.1.1) ((0, []), .slice none 0 0) ⟨Nat.zero_le _, (Fi.toldR_zero v).symm⟩ (run trivial) (run trivial) ?_
  rintro ⟨⟨k, b⟩, w⟩ ⟨hk, hb⟩
  dsimp only at hk hb ⊢
  have ht := Fi.toldR_len v k
  have hc := (v.getD k 0).toNat_lt
  have hx1 := Dn.hexI_bd (n := ((v.getD k 0).toNat : Int) / 16) (by omega)
  have hx2 := Dn.hexI_bd (n := ((v.getD k 0).toNat : Int) % 16) (by omega)
  rw [← hb] at ht
  by_cases hlt : k < v.length
  · refine run ?_
    refine ⟨?_, ?_⟩ <;> intros
    · have hbar : Fi.barC (v.getD k 0) = true := (Fi.barC_iff _).2 (by omega)
      refine HX.roundX ((k + 1, b ++ [b8 92, b8 (Dn.hexI (((v.getD k 0).toNat : Int) / 16)), b8 (Dn.hexI (((v.getD k 0).toNat : Int) % 16))]), _) ⟨⟨by dsimp only; omega, ?_⟩, by dsimp only; omega⟩ rfl (run trivial) (run trivial)
      dsimp only
      rw [Fi.toldR_succ hlt, ← hb, Fi.toldC_bar hbar, ← Fi.hexI_at (by omega), ← Fi.hexI_at (by omega)]
      rfl
    · have hbar : Fi.barC (v.getD k 0) = false := by
        rw [Bool.eq_false_iff]
        intro h
        have := (Fi.barC_iff _).1 h
        omega
      refine HX.roundX ((k + 1, b ++ [v.getD k 0]), _) ⟨⟨by dsimp only; omega, ?_⟩, by dsimp only; omega⟩ rfl (run trivial) (run trivial)
      dsimp only
      rw [Fi.toldR_succ hlt, ← hb, Fi.toldC_one hbar]
  · rw [← Fi.toldR_all]
    refine run ?_
    intros
    rw [hb, show k = v.length by omega]
set_option maxHeartbeats 2000000 in
theorem fpTold (v : List UInt8) (hv : v.length ≤ 1048576) : CFn Try.prog 39 [Is (str v)] (Is (str (Fi.told v))) := by
  have c1 := stIndexByte
  have pl := Plan.mk' 7 [(0,3,[]),(1,3,[]),(2,3,[]),(3,3,[]),(4,3,[]),(5,3,[]),(6,3,[]),(7,3,[]),(8,0,[]),(9,3,[])]
  refine CallsC.of Try.call39 Try.func39 rfl Try.ntmps39 rfl fun w0 G0 S0 hs ho => ?_
  refine run ?_
  refine HT.loopX (σ := (Nat × List UInt8) × Value) [0, 2, 7] (fun t => [(3, TAnd (Is t.2) (TBytes t.1.2)), (8, okI .i64 (t.1.1 : Int))]) (fun t => [ownSl t.2 1 5]) (fun t => t.1.1 ≤ v.length ∧ t.1.2 = Fi.toldR v t.1.1) (fun t => v.length - t.1.1) ((0, []), .slice none 0 0) ⟨Nat.zero_le _, (Fi.toldR_zero v).symm⟩ (run trivial) (run trivial) ?_
  rintro ⟨⟨k, b⟩, w⟩ ⟨hk, hb⟩
  dsimp only at hk hb ⊢
  have ht := Fi.toldR_len v k
  have hc := (v.getD k 0).toNat_lt
  rw [← hb] at ht
  have hmk := Fi.mark_iff (v.getD k 0)
  have hh1 := Fi.hexS_at (n := (v.getD k 0).toNat / 16) (by omega)
  have hh2 := Fi.hexS_at (n := (v.getD k 0).toNat % 16) (by omega)
  unfold Fi.hexS at hh1 hh2
  by_cases hlt : k < v.length
  · refine run ?_
    refine ⟨?_, ?_⟩ <;> intros
    · have hbar : Fi.barC (v.getD k 0) = true := (Fi.barC_iff _).2 (by omega)
      refine HX.roundX ((k + 1, b ++ [b8 92, ([48, 49, 50, 51, 52, 53, 54, 55, 56, 57, 97, 98, 99, 100, 101, 102] : List UInt8).getD ((v.getD k 0).toNat / 16) 0, ([48, 49, 50, 51, 52, 53, 54, 55, 56, 57, 97, 98, 99, 100, 101, 102] : List UInt8).getD (((v.getD k 0).toNat : Int) % 16).toNat 0]), _) ⟨⟨by dsimp only; omega, ?_⟩, by dsimp only; omega⟩ rfl (run trivial) (run trivial)
      dsimp only
      rw [Fi.toldR_succ hlt, ← hb, Fi.toldC_bar hbar, show (((v.getD k 0).toNat : Int) % 16).toNat = (v.getD k 0).toNat % 16 by omega, hh1, hh2]
      rfl
    · have hbar : Fi.barC (v.getD k 0) = false := by
        rw [Bool.eq_false_iff]
        intro h
        have := (Fi.barC_iff _).1 h
        omega
      refine HX.roundX ((k + 1, b ++ [v.getD k 0]), _) ⟨⟨by dsimp only; omega, ?_⟩, by dsimp only; omega⟩ rfl (run trivial) (run trivial)
      dsimp only
      rw [Fi.toldR_succ hlt, ← hb, Fi.toldC_one hbar]
  · rw [← Fi.toldR_all]
    refine run ?_
    intros
    rw [hb, show k = v.length by omega]
end Go.Proofs.Ythjckklijlfghaa
set_option linter.unusedVariables false
namespace Go.Fi
open Go.Vk
def sumB : List (List UInt8) → Nat
  | [] => 0
  | s :: r => s.length + sumB r
theorem sumB_subsW : ∀ l : List (List UInt8), sumB l + l.length = subsW l
  | [] => rfl
  | s :: r => by have := sumB_subsW r; simp only [sumB, subsW, List.length_cons]; omega
theorem sumB_snoc {l : List (List UInt8)} {i : Nat} (h : i < l.length) : sumB (l.take (i + 1)) = sumB (l.take i) + (l.getD i default).length := by
  induction l generalizing i with
  | nil => simp at h
  | cons f r ih =>
    cases i with
    | zero => simp [sumB]
    | succ i =>
      have := ih (i := i) (by simpa using h)
      simp only [List.take_succ_cons, sumB, List.getD_cons_succ]
      omega
theorem sumB_take (l : List (List UInt8)) (i : Nat) : sumB (l.take i) ≤ sumB l := by
  induction l generalizing i with
  | nil => simp
  | cons f r ih =>
    cases i with
    | zero => simp [sumB]
    | succ i =>
      have := ih i
      simp only [List.take_succ_cons, sumB]
      omega
theorem sumB_get {l : List (List UInt8)} {i : Nat} (h : i < l.length) : (l.getD i default).length ≤ sumB l := by
  have h1 := sumB_snoc h
  have h2 := sumB_take l (i + 1)
  omega
theorem joinB_two (x y : List UInt8) (r : List (List UInt8)) : joinB (x :: y :: r) = x ++ 42 :: joinB (y :: r) := rfl
theorem joinB_len : ∀ l : List (List UInt8), (joinB l).length ≤ subsW l
  | [] => by simp [joinB]
  | [x] => by simp only [joinB, subsW]; omega
  | x :: y :: r => by
    have := joinB_len (y :: r)
    rw [joinB_two, subsW, List.length_append, List.length_cons]; omega
theorem joinB_snoc : ∀ {l : List (List UInt8)} {i : Nat}, i + 1 < l.length → joinB (l.take (i + 2)) = joinB (l.take (i + 1)) ++ 42 :: l.getD (i + 1) default
  | [], i, h => by simp at h
  | [x], i, h => by simp at h
  | x :: y :: r, 0, h => by simp [joinB]
  | x :: y :: r, i + 1, h => by
    have h1 := joinB_snoc (l := y :: r) (i := i) (by simpa using h)
    have e1 : (x :: y :: r).take (i + 1 + 2) = x :: y :: r.take (i + 1) := rfl
    have e2 : (x :: y :: r).take (i + 1 + 1) = x :: y :: r.take i := rfl
    have e3 : (y :: r).take (i + 2) = y :: r.take (i + 1) := rfl
    have e4 : (y :: r).take (i + 1) = y :: r.take i := rfl
    rw [e1, e2, joinB_two, joinB_two, ← e3, ← e4, h1]
    simp only [List.append_assoc, List.cons_append, List.getD_cons_succ]
theorem joinB_drop {l : List (List UInt8)} (i : Nat) : (l.drop 1).getD i default = l.getD (i + 1) default := by
  simp [List.getD_eq_getElem?_getD, Nat.add_comm]
theorem joinB_0 {l : List (List UInt8)} (h : l.length = 0) : joinB l = [] := by
  rw [List.eq_nil_of_length_eq_zero h]; rfl
theorem joinB_1 {l : List (List UInt8)} (h : l.length = 1) : joinB l = l.getD 0 default := by
  match l, h with
  | [x], _ => rfl
theorem quo_big {n : Int} (h1 : 1 ≤ n) (h2 : n ≤ 10000000) : ¬ 9223372036854775807 / n ≤ 1 := by
  intro h
  have h3 : (9223372036854775807 : Int) / n < 2 := by omega
  have := (Int.ediv_lt_iff_lt_mul (by omega)).1 h3
  omega
theorem joinB_first {l : List (List UInt8)} (h : 0 < l.length) : joinB (l.take (0 + 1)) = l.getD 0 default := by
  match l, h with
  | x :: r, _ => simp [joinB]
theorem subsW_take0 (l : List (List UInt8)) (i : Nat) : subsW (l.take i) ≤ subsW l := by
  induction l generalizing i with
  | nil => simp
  | cons f r ih =>
    cases i with
    | zero => simp [subsW]
    | succ i =>
      have := ih i
      simp only [List.take_succ_cons, subsW]
      omega
end Go.Fi
set_option linter.unusedVariables false
namespace Go.Proofs.Ythjckklijlfghaa
open Go.Vk
attribute [local irreducible] HT HX RegS RegA RegM OpP OpC AltT
/-- A Builder with room that is not written yet. -/
abbrev BG (g : Nat) : Res := packR fun v : Value => [ownP g 72 [Is (pAt g 0), Is (slAt (sblk v) 0 (scap v))], ownA (sblk v) (scap v) 5 1 (fun ts : List Ty => ts) []]
theorem bldRoom (g : Nat) (n : Int) (h : 0 ≤ n ∧ n ≤ 100000000) : CallsC Try.prog 69 [Is (pAt g 0), okI .i64 n] [ownP g 72 [Is (pAt g 0), TAnd (Is (.slice none 0 0)) (TBytes [])]] (fun _ => TTup []) (fun _ => [BG g]) := by
  have hmk : MkNZ Try.prog 74 5 := MkNZ.of rfl rfl rfl rfl rfl rfl
  have pl := Plan.mk' 0 [(0,3,[]),(1,3,[]),(2,3,[]),(3,2,[0]),(4,3,[]),(5,3,[]),(6,3,[]),(7,3,[]),(9,3,[]),(10,3,[]),(11,3,[]),(12,2,[0]),(13,3,[]),(8,0,[0]),(14,3,[]),(15,3,[])]
  refine CallsC.of Try.call69 Try.func69 rfl Try.ntmps69 rfl fun w0 G0 S0 hs ho => ?_
  exact run trivial
theorem bldGrow (g : Nat) (n : Int) (h : 1 ≤ n ∧ n ≤ 100000000) : CallsC Try.prog 54 [Is (pAt g 0), okI .i64 n] [ownP g 72 [Is (.pointer none), Is (.slice none 0 0)]] (fun _ => TTup []) (fun _ => [BG g]) := by
  have c1 := bldCheck g false (.slice none 0 0) []
  have c2 := bldRoom g n ⟨by omega, h.2⟩
  refine CallsC.of Try.call54 Try.func54 rfl Try.ntmps54 rfl fun w0 G0 S0 hs ho => ?_
  exact run trivial
set_option maxHeartbeats 2000000 in
theorem stJoin (l : List (List UInt8)) (hw : Fi.subsW l ≤ 10000000) : CFn Try.prog 40 [TSl 1 Fi.cS l, Is (str [42])] (Is (str (Fi.joinB l))) := by
  have hsw := Fi.sumB_subsW l
  have mu := Mut.mk' [8]
  by_cases h0 : l.length = 0
  · have e := Fi.joinB_0 h0
    rw [e]
    refine CallsC.of Try.call40 Try.func40 rfl Try.ntmps40 rfl fun w0 G0 S0 hs ho => ?_
    exact run trivial
  by_cases h1 : l.length = 1
  · have e := Fi.joinB_1 h1
    rw [e]
    refine CallsC.of Try.call40 Try.func40 rfl Try.ntmps40 rfl fun w0 G0 S0 hs ho => ?_
    exact run trivial
  have hd := Fi.quo_big (by omega : 1 ≤ (l.length : Int) - 1) (by omega : (l.length : Int) - 1 ≤ 10000000)
  have hd' : ¬ 9223372036854775807 / ((l.length : Int) - 1) ≤ (([42] : List UInt8).length : Int) := hd
  have c1 := bldGrow
  have c2 := bldStr
  have c3 := bldOut
  have st := Stop.mk' 20
  have hlen : (([42] : List UInt8).length : Int) = 1 := rfl
  refine CallsC.of Try.call40 Try.func40 rfl Try.ntmps40 rfl fun w0 G0 S0 hs ho => ?_
  refine run ?_
  intro _ _ _ _
  refine HT.loopX (σ := Nat) [0, 1, 4, 39, 40] (fun i => [(5, okI .i64 (((l.length - 1 + Fi.sumB (l.take i) : Nat)) : Int)), (41, okI .i64 (i : Int))]) (fun i => []) (fun i => i ≤ l.length) (fun i => l.length - i) 0 (Nat.zero_le _) (run trivial) (by refine run ?_; have e : Fi.sumB (List.take 0 l) = 0 := rfl; rw [e, hlen]; omega) ?_
  rintro i hi
  by_cases hlt : i < l.length
  · have h3 := Fi.sumB_snoc hlt
    have h4 := Fi.sumB_take l (i + 1)
    clear c1 c2 c3
    refine run ?_
    intro _ _
    exact HX.roundX (i + 1) ⟨by omega, by omega⟩ rfl (run trivial) (run trivial)
  · rw [List.take_of_length_le (by omega)]
    refine run ?_
    intro v0 _
    refine HTs.mk ?_
    have hg0 := Fi.sumB_get (l := l) (i := 0) (by omega)
    have c4 := bldStr (blk v0) [] (l.getD 0 default) (by simp only [List.length_nil]; omega)
    rw [List.nil_append] at c4
    clear st c1 c2
    refine HT.unpack 0 rfl fun v => ?_
    refine HT.roomP (j := 1) 2 1 rfl rfl rfl rfl ?_
    refine HT.to (L' := [BX (blk v0) []]) (run trivial) ?_
    refine run ?_
    refine HT.loopX (σ := Nat × List UInt8) [1, 4, 8, 63, 64] (fun t => [(65, okI .i64 (t.1 : Int))]) (fun t => [BX (blk v0) t.2]) (fun t => t.1 + 1 ≤ l.length ∧ t.2 = Fi.joinB (l.take (t.1 + 1))) (fun t => l.length - t.1) (0, l.getD 0 default) ⟨by dsimp only; omega, (Fi.joinB_first (by omega)).symm⟩ (run trivial) (run trivial) ?_
    clear c4
    rintro ⟨i, b⟩ ⟨hi, hb⟩
    dsimp only at hi hb ⊢
    have hj := Fi.joinB_len (l.take (i + 1))
    have hts := Fi.subsW_take0 l (i + 1)
    rw [← hb] at hj
    by_cases hlt : i + 1 < l.length
    · have hs := Fi.joinB_snoc hlt
      have hg := Fi.sumB_get hlt
      have hg' := Fi.joinB_drop (l := l) i
      have c2 : CallsC Try.prog 55 [Is (pAt (blk v0) 0), Is (str [42])] [BX (blk v0) b] (fun _ => TTup [okI .i64 1, Is .nilIface]) (fun _ => [BX (blk v0) (b ++ [42])]) := bldStr (blk v0) b [42] (by rw [List.length_singleton]; omega)
      have c4 : CallsC Try.prog 55 [Is (pAt (blk v0) 0), Is (str ((l.drop (Int.toNat 1)).getD i default))] [BX (blk v0) (b ++ [42])] (fun _ => TTup [okI .i64 (((l.drop (Int.toNat 1)).getD i default).length : Int), Is .nilIface]) (fun _ => [BX (blk v0) (b ++ [42] ++ (l.drop (Int.toNat 1)).getD i default)]) := bldStr (blk v0) (b ++ [42]) ((l.drop (Int.toNat 1)).getD i default) (by rw [List.length_append, List.length_singleton, show (Int.toNat 1) = 1 from rfl, hg']; omega)
      have hdl : (l.drop (Int.toNat 1)).length = l.length - 1 := by rw [List.length_drop]; rfl
      clear c3
      refine run ?_
      intros
      refine HX.roundX (i + 1, b ++ [42] ++ (l.drop (Int.toNat 1)).getD i default) ⟨⟨by dsimp only; omega, ?_⟩, by dsimp only; omega⟩ rfl (run trivial) (run trivial)
      dsimp only
      rw [show (Int.toNat 1) = 1 from rfl, hg', hs, hb, List.append_assoc]
      rfl
    · have hbl : b = Fi.joinB l := by rw [hb, List.take_of_length_le (by omega)]
      subst hbl
      have hdl : (l.drop (Int.toNat 1)).length = l.length - 1 := by rw [List.length_drop]; rfl
      have hj := Fi.joinB_len l
      exact run trivial
end Go.Proofs.Ythjckklijlfghaa
set_option linter.unusedVariables false
namespace Go.Fi
open Go.Vk
theorem prF_mk (k : Int) (t v : List UInt8) (s : List (List UInt8)) (ks : List Fil) : prF (.mk k t v s ks) = 40 :: (headT k t v s ++ prL ks ++ [41]) := by conv => lhs; unfold prF
theorem prL_nil : prL [] = [] := by unfold prL; rfl
theorem prL_cons (f : Fil) (r : List Fil) : prL (f :: r) = prF f ++ prL r := by conv => lhs; unfold prL
theorem prL_snoc {l : List Fil} {i : Nat} (h : i < l.length) : prL (l.take (i + 1)) = prL (l.take i) ++ prF (l.getD i default) := by
  induction l generalizing i with
  | nil => simp at h
  | cons f r ih =>
    cases i with
    | zero => simp [prL_cons, prL_nil]
    | succ i =>
      have := ih (i := i) (by simpa using h)
      simp only [List.take_succ_cons, prL_cons, List.getD_cons_succ, this, List.append_assoc]
theorem subsW_told : ∀ l : List (List UInt8), subsW (l.map told) ≤ 3 * subsW l
  | [] => by simp [subsW]
  | s :: r => by
    have h1 := told_len s
    have h2 := subsW_told r
    simp only [List.map_cons, subsW]; omega
theorem headT_len (k : Int) (t v : List UInt8) (s : List (List UInt8)) : (headT k t v s).length ≤ 2 + t.length + 3 * v.length + 3 * subsW s := by
  have h1 := told_len v
  have h2 := joinB_len (s.map told)
  have h3 := subsW_told s
  unfold headT
  repeat' split
  all_goals simp only [List.length_cons, List.length_nil, List.length_append]
  all_goals omega
mutual
theorem prF_len3 : ∀ f : Fil, (prF f).length ≤ 3 * wt f
  | .mk k t v s ks => by
    have h1 := headT_len k t v s
    have h2 := prL_len3 ks
    rw [prF_mk, wt]
    simp only [List.length_cons, List.length_nil, List.length_append]
    omega
theorem prL_len3 : ∀ l : List Fil, (prL l).length ≤ 3 * wtL l
  | [] => by rw [prL_nil]; simp
  | f :: r => by
    have h1 := prF_len3 f
    have h2 := prL_len3 r
    rw [prL_cons, wtL, List.length_append]; omega
end
theorem wtL_take (l : List Fil) (i : Nat) : wtL (l.take i) ≤ wtL l := by
  induction l generalizing i with
  | nil => simp
  | cons f r ih =>
    cases i with
    | zero => simp [wtL]
    | succ i =>
      have := ih i
      simp only [List.take_succ_cons, wtL]
      omega
theorem subsW_take (l : List (List UInt8)) (i : Nat) : subsW (l.take i) ≤ subsW l := by
  induction l generalizing i with
  | nil => simp
  | cons f r ih =>
    cases i with
    | zero => simp [subsW]
    | succ i =>
      have := ih i
      simp only [List.take_succ_cons, subsW]
      omega
theorem subsW_get {l : List (List UInt8)} {i : Nat} (h : i < l.length) : (l.getD i default).length + 1 ≤ subsW l := by
  induction l generalizing i with
  | nil => simp at h
  | cons f r ih =>
    cases i with
    | zero => simp only [List.getD_cons_zero, subsW]; omega
    | succ i =>
      have := ih (i := i) (by simpa using h)
      simp only [List.getD_cons_succ, subsW]; omega
theorem wt_mk (k : Int) (t v : List UInt8) (s : List (List UInt8)) (ks : List Fil) : wt (.mk k t v s ks) = 5 + t.length + v.length + subsW s + wtL ks := by unfold wt; rfl
theorem headT_0 (t v : List UInt8) (s : List (List UInt8)) : headT 0 t v s = [38] := rfl
theorem headT_1 (t v : List UInt8) (s : List (List UInt8)) : headT 1 t v s = [124] := rfl
theorem headT_2 (t v : List UInt8) (s : List (List UInt8)) : headT 2 t v s = [33] := rfl
theorem headT_3 (t v : List UInt8) (s : List (List UInt8)) : headT 3 t v s = t ++ [61] ++ told v := by rw [List.append_assoc]; rfl
theorem headT_4 (t v : List UInt8) (s : List (List UInt8)) : headT 4 t v s = t ++ [61] ++ joinB (s.map told) := by rw [List.append_assoc]; rfl
theorem headT_5 (t v : List UInt8) (s : List (List UInt8)) : headT 5 t v s = t ++ [62, 61] ++ told v := by rw [List.append_assoc]; rfl
theorem headT_6 (t v : List UInt8) (s : List (List UInt8)) : headT 6 t v s = t ++ [60, 61] ++ told v := by rw [List.append_assoc]; rfl
theorem headT_7 (t v : List UInt8) (s : List (List UInt8)) : headT 7 t v s = t ++ [61, 42] := rfl
theorem headT_x {k : Int} (h : k ≠ 0 ∧ k ≠ 1 ∧ k ≠ 2 ∧ k ≠ 3 ∧ k ≠ 4 ∧ k ≠ 5 ∧ k ≠ 6 ∧ k ≠ 7) (t v : List UInt8) (s : List (List UInt8)) : headT k t v s = [] := by
  unfold headT
  rw [if_neg h.1, if_neg h.2.1, if_neg h.2.2.1, if_neg h.2.2.2.1, if_neg h.2.2.2.2.1, if_neg h.2.2.2.2.2.1, if_neg h.2.2.2.2.2.2.1, if_neg h.2.2.2.2.2.2.2]
theorem told_snoc {l : List (List UInt8)} {i : Nat} (h : i < l.length) : (l.take (i + 1)).map told = (l.take i).map told ++ [told (l.getD i default)] := by
  rw [List.take_add_one, List.map_append, List.getElem?_eq_getElem h, List.getD_eq_getElem?_getD, List.getElem?_eq_getElem h]
  rfl
theorem wtL_get {l : List Fil} {i : Nat} (h : i < l.length) : wt (l.getD i default) ≤ wtL l := by
  induction l generalizing i with
  | nil => simp at h
  | cons f r ih =>
    cases i with
    | zero => simp only [List.getD_cons_zero, wtL]; omega
    | succ i =>
      have := ih (i := i) (by simpa using h)
      simp only [List.getD_cons_succ, wtL]; omega
end Go.Fi
set_option linter.unusedVariables false
namespace Go.Proofs.Ythjckklijlfghaa
open Go.Vk
attribute [local irreducible] HT HX RegS RegA RegM OpP OpC AltT
attribute [local irreducible] Fi.nodes Fi.nodesL Fi.told Fi.joinB Fi.prF Fi.prL Fi.wt Fi.wtL Fi.subsW
set_option maxHeartbeats 4000000 in
theorem fpPrintS (k : Int) (t v : List UInt8) (s : List (List UInt8)) (ks : List Fi.Fil) (hw : Fi.wt (.mk k t v s ks) ≤ 1000000) (IH : ∀ f ∈ ks, CFn Try.prog 25 [TAgg (Fi.cF f)] (Is (str (Fi.prF f)))) : CFn Try.prog 25 [TAgg (Fi.cF (.mk k t v s ks))] (Is (str (Fi.prF (.mk k t v s ks)))) := by
  rw [Fi.cF_open, Fi.prF_mk]
  have hw' := Fi.wt_mk k t v s ks
  rw [hw'] at hw
  dsimp only [Fi.Fil.kind, Fi.Fil.typ, Fi.Fil.val, Fi.Fil.subs, Fi.Fil.kids]
  have w1 := wtL_len ks
  have w2 := subsW_len s
  have c1 := fpTold
  have c2 := stJoin (s.map Fi.told) (by have := Fi.subsW_told s; omega)
  have hjl := Fi.joinB_len (s.map Fi.told)
  have hjs := Fi.subsW_told s
  have htl := Fi.told_len v
  refine CallsC.of Try.call25 Try.func25 rfl Try.ntmps25 rfl fun w0 G0 S0 hs ho => ?_
  refine run ?_
  refine HT.loopX (σ := Nat × List (List UInt8) × Value) [1, 2, 10, 11] (fun t' => [(3, TAnd (Is t'.2.2) (TSl 1 Fi.cS t'.2.1)), (12, okI .i64 (t'.1 : Int))]) (fun t' => [ownSl t'.2.2 1 9]) (fun t' => t'.1 ≤ s.length ∧ t'.2.1 = (s.take t'.1).map Fi.told) (fun t' => s.length - t'.1) (0, [], .slice none 0 0) ⟨Nat.zero_le _, rfl⟩ (run trivial) (run trivial) ?_
  rintro ⟨i, acc, w⟩ ⟨hi, ha⟩
  dsimp only at hi ha ⊢
  by_cases hlt : i < s.length
  · have h3 := Fi.subsW_get hlt
    have hal : acc.length = i := by rw [ha, List.length_map, List.length_take]; omega
    have hsn := Fi.told_snoc hlt
    clear c2 IH
    refine run ?_
    intro w' _
    exact HX.roundX (i + 1, acc ++ [Fi.told (s.getD i default)], w') ⟨⟨by dsimp only; omega, by dsimp only; rw [hsn, ha]⟩, by dsimp only; omega⟩ rfl (run trivial) (run trivial)
  · have ha' : acc = s.map Fi.told := by rw [ha, List.take_of_length_le (by omega)]
    subst ha'
    clear ha
    have hK : ∀ i, i < ks.length → CFn Try.prog 25 [TAgg (Fi.cF (ks.getD i default))] (Is (str (Fi.prF (ks.getD i default)))) := fun i h => IH _ (En.getD_mem h)
    clear IH
    have hH := Fi.headT_len k t v s
    by_cases k0 : k = 0
    · subst k0
      clear c1 c2
      have eh := Fi.headT_0 t v s
      refine run ?_
      intros
      refine HT.loopX (σ := Nat) [2, 71, 72] (fun i => [(6, Is (str (Fi.headT 0 t v s ++ Fi.prL (ks.take i)))), (73, okI .i64 (i : Int))]) (fun i => []) (fun i => i ≤ ks.length) (fun i => ks.length - i) 0 (Nat.zero_le _) (run trivial) (by refine run ?_; rw [eh, show List.take 0 ks = [] from rfl, Fi.prL_nil, List.append_nil]) ?_
      clear eh
      intro j hj
      by_cases hlt : j < ks.length
      · have c3 := hK j hlt
        have e1 := Fi.prL_snoc hlt
        have e2 := Fi.prL_len3 (ks.take j)
        have e3 := Fi.wtL_take ks j
        have e4 := Fi.prF_len3 (ks.getD j default)
        have e5 := Fi.wtL_get hlt
        clear hK
        refine run ?_
        intro v' _
        exact HX.roundX (j + 1) ⟨by omega, by omega⟩ rfl (run trivial) (by refine run ?_; rw [e1, List.append_assoc])
      · rw [List.take_of_length_le (by omega)]
        have e2 := Fi.prL_len3 ks
        clear hK
        refine run ?_
        intro _
        rfl
    by_cases k1 : k = 1
    · subst k1
      clear c1 c2
      have eh := Fi.headT_1 t v s
      refine run ?_
      intros
      refine HT.loopX (σ := Nat) [2, 71, 72] (fun i => [(6, Is (str (Fi.headT 1 t v s ++ Fi.prL (ks.take i)))), (73, okI .i64 (i : Int))]) (fun i => []) (fun i => i ≤ ks.length) (fun i => ks.length - i) 0 (Nat.zero_le _) (run trivial) (by refine run ?_; rw [eh, show List.take 0 ks = [] from rfl, Fi.prL_nil, List.append_nil]) ?_
      clear eh
      intro j hj
      by_cases hlt : j < ks.length
      · have c3 := hK j hlt
        have e1 := Fi.prL_snoc hlt
        have e2 := Fi.prL_len3 (ks.take j)
        have e3 := Fi.wtL_take ks j
        have e4 := Fi.prF_len3 (ks.getD j default)
        have e5 := Fi.wtL_get hlt
        clear hK
        refine run ?_
        intro v' _
        exact HX.roundX (j + 1) ⟨by omega, by omega⟩ rfl (run trivial) (by refine run ?_; rw [e1, List.append_assoc])
      · rw [List.take_of_length_le (by omega)]
        have e2 := Fi.prL_len3 ks
        clear hK
        refine run ?_
        intro _
        rfl
    by_cases k2 : k = 2
    · subst k2
      clear c1 c2
      have eh := Fi.headT_2 t v s
      refine run ?_
      intros
      refine HT.loopX (σ := Nat) [2, 71, 72] (fun i => [(6, Is (str (Fi.headT 2 t v s ++ Fi.prL (ks.take i)))), (73, okI .i64 (i : Int))]) (fun i => []) (fun i => i ≤ ks.length) (fun i => ks.length - i) 0 (Nat.zero_le _) (run trivial) (by refine run ?_; rw [eh, show List.take 0 ks = [] from rfl, Fi.prL_nil, List.append_nil]) ?_
      clear eh
      intro j hj
      by_cases hlt : j < ks.length
      · have c3 := hK j hlt
        have e1 := Fi.prL_snoc hlt
        have e2 := Fi.prL_len3 (ks.take j)
        have e3 := Fi.wtL_take ks j
        have e4 := Fi.prF_len3 (ks.getD j default)
        have e5 := Fi.wtL_get hlt
        clear hK
        refine run ?_
        intro v' _
        exact HX.roundX (j + 1) ⟨by omega, by omega⟩ rfl (run trivial) (by refine run ?_; rw [e1, List.append_assoc])
      · rw [List.take_of_length_le (by omega)]
        have e2 := Fi.prL_len3 ks
        clear hK
        refine run ?_
        intro _
        rfl
    by_cases k3 : k = 3
    · subst k3
      clear c2
      have eh := Fi.headT_3 t v s
      refine run ?_
      intros
      refine HT.loopX (σ := Nat) [2, 71, 72] (fun i => [(6, Is (str (Fi.headT 3 t v s ++ Fi.prL (ks.take i)))), (73, okI .i64 (i : Int))]) (fun i => []) (fun i => i ≤ ks.length) (fun i => ks.length - i) 0 (Nat.zero_le _) (run trivial) (by refine run ?_; rw [eh, show List.take 0 ks = [] from rfl, Fi.prL_nil, List.append_nil]) ?_
      clear eh
      intro j hj
      by_cases hlt : j < ks.length
      · have c3 := hK j hlt
        have e1 := Fi.prL_snoc hlt
        have e2 := Fi.prL_len3 (ks.take j)
        have e3 := Fi.wtL_take ks j
        have e4 := Fi.prF_len3 (ks.getD j default)
        have e5 := Fi.wtL_get hlt
        clear hK
        refine run ?_
        intro v' _
        exact HX.roundX (j + 1) ⟨by omega, by omega⟩ rfl (run trivial) (by refine run ?_; rw [e1, List.append_assoc])
      · rw [List.take_of_length_le (by omega)]
        have e2 := Fi.prL_len3 ks
        clear hK
        refine run ?_
        intro _
        rfl
    by_cases k4 : k = 4
    · subst k4
      clear c1
      have eh := Fi.headT_4 t v s
      refine run ?_
      intros
      refine HT.loopX (σ := Nat) [2, 71, 72] (fun i => [(6, Is (str (Fi.headT 4 t v s ++ Fi.prL (ks.take i)))), (73, okI .i64 (i : Int))]) (fun i => []) (fun i => i ≤ ks.length) (fun i => ks.length - i) 0 (Nat.zero_le _) (run trivial) (by refine run ?_; rw [eh, show List.take 0 ks = [] from rfl, Fi.prL_nil, List.append_nil]) ?_
      clear eh
      intro j hj
      by_cases hlt : j < ks.length
      · have c3 := hK j hlt
        have e1 := Fi.prL_snoc hlt
        have e2 := Fi.prL_len3 (ks.take j)
        have e3 := Fi.wtL_take ks j
        have e4 := Fi.prF_len3 (ks.getD j default)
        have e5 := Fi.wtL_get hlt
        clear hK
        refine run ?_
        intro v' _
        exact HX.roundX (j + 1) ⟨by omega, by omega⟩ rfl (run trivial) (by refine run ?_; rw [e1, List.append_assoc])
      · rw [List.take_of_length_le (by omega)]
        have e2 := Fi.prL_len3 ks
        clear hK
        refine run ?_
        intro _
        rfl
    by_cases k5 : k = 5
    · subst k5
      clear c2
      have eh := Fi.headT_5 t v s
      refine run ?_
      intros
      refine HT.loopX (σ := Nat) [2, 71, 72] (fun i => [(6, Is (str (Fi.headT 5 t v s ++ Fi.prL (ks.take i)))), (73, okI .i64 (i : Int))]) (fun i => []) (fun i => i ≤ ks.length) (fun i => ks.length - i) 0 (Nat.zero_le _) (run trivial) (by refine run ?_; rw [eh, show List.take 0 ks = [] from rfl, Fi.prL_nil, List.append_nil]) ?_
      clear eh
      intro j hj
      by_cases hlt : j < ks.length
      · have c3 := hK j hlt
        have e1 := Fi.prL_snoc hlt
        have e2 := Fi.prL_len3 (ks.take j)
        have e3 := Fi.wtL_take ks j
        have e4 := Fi.prF_len3 (ks.getD j default)
        have e5 := Fi.wtL_get hlt
        clear hK
        refine run ?_
        intro v' _
        exact HX.roundX (j + 1) ⟨by omega, by omega⟩ rfl (run trivial) (by refine run ?_; rw [e1, List.append_assoc])
      · rw [List.take_of_length_le (by omega)]
        have e2 := Fi.prL_len3 ks
        clear hK
        refine run ?_
        intro _
        rfl
    by_cases k6 : k = 6
    · subst k6
      clear c2
      have eh := Fi.headT_6 t v s
      refine run ?_
      intros
      refine HT.loopX (σ := Nat) [2, 71, 72] (fun i => [(6, Is (str (Fi.headT 6 t v s ++ Fi.prL (ks.take i)))), (73, okI .i64 (i : Int))]) (fun i => []) (fun i => i ≤ ks.length) (fun i => ks.length - i) 0 (Nat.zero_le _) (run trivial) (by refine run ?_; rw [eh, show List.take 0 ks = [] from rfl, Fi.prL_nil, List.append_nil]) ?_
      clear eh
      intro j hj
      by_cases hlt : j < ks.length
      · have c3 := hK j hlt
        have e1 := Fi.prL_snoc hlt
        have e2 := Fi.prL_len3 (ks.take j)
        have e3 := Fi.wtL_take ks j
        have e4 := Fi.prF_len3 (ks.getD j default)
        have e5 := Fi.wtL_get hlt
        clear hK
        refine run ?_
        intro v' _
        exact HX.roundX (j + 1) ⟨by omega, by omega⟩ rfl (run trivial) (by refine run ?_; rw [e1, List.append_assoc])
      · rw [List.take_of_length_le (by omega)]
        have e2 := Fi.prL_len3 ks
        clear hK
        refine run ?_
        intro _
        rfl
    by_cases k7 : k = 7
    · subst k7
      clear c1 c2
      have eh := Fi.headT_7 t v s
      refine run ?_
      intros
      refine HT.loopX (σ := Nat) [2, 71, 72] (fun i => [(6, Is (str (Fi.headT 7 t v s ++ Fi.prL (ks.take i)))), (73, okI .i64 (i : Int))]) (fun i => []) (fun i => i ≤ ks.length) (fun i => ks.length - i) 0 (Nat.zero_le _) (run trivial) (by refine run ?_; rw [eh, show List.take 0 ks = [] from rfl, Fi.prL_nil, List.append_nil]) ?_
      clear eh
      intro j hj
      by_cases hlt : j < ks.length
      · have c3 := hK j hlt
        have e1 := Fi.prL_snoc hlt
        have e2 := Fi.prL_len3 (ks.take j)
        have e3 := Fi.wtL_take ks j
        have e4 := Fi.prF_len3 (ks.getD j default)
        have e5 := Fi.wtL_get hlt
        clear hK
        refine run ?_
        intro v' _
        exact HX.roundX (j + 1) ⟨by omega, by omega⟩ rfl (run trivial) (by refine run ?_; rw [e1, List.append_assoc])
      · rw [List.take_of_length_le (by omega)]
        have e2 := Fi.prL_len3 ks
        clear hK
        refine run ?_
        intro _
        rfl
    · clear c1 c2
      have eh := Fi.headT_x ⟨k0, k1, k2, k3, k4, k5, k6, k7⟩ t v s
      refine run ?_
      intros
      refine HT.loopX (σ := Nat) [2, 71, 72] (fun i => [(6, Is (str (Fi.headT k t v s ++ Fi.prL (ks.take i)))), (73, okI .i64 (i : Int))]) (fun i => []) (fun i => i ≤ ks.length) (fun i => ks.length - i) 0 (Nat.zero_le _) (run trivial) (by refine run ?_; rw [eh, show List.take 0 ks = [] from rfl, Fi.prL_nil, List.append_nil]) ?_
      clear eh
      intro j hj
      by_cases hlt : j < ks.length
      · have c3 := hK j hlt
        have e1 := Fi.prL_snoc hlt
        have e2 := Fi.prL_len3 (ks.take j)
        have e3 := Fi.wtL_take ks j
        have e4 := Fi.prF_len3 (ks.getD j default)
        have e5 := Fi.wtL_get hlt
        clear hK
        refine run ?_
        intro v' _
        exact HX.roundX (j + 1) ⟨by omega, by omega⟩ rfl (run trivial) (by refine run ?_; rw [e1, List.append_assoc])
      · rw [List.take_of_length_le (by omega)]
        have e2 := Fi.prL_len3 ks
        clear hK
        refine run ?_
        intro _
        rfl
theorem fpPrintN : ∀ (N : Nat) (f : Fi.Fil), Fi.nodes f ≤ N → Fi.wt f ≤ 1000000 → CFn Try.prog 25 [TAgg (Fi.cF f)] (Is (str (Fi.prF f)))
  | 0, .mk k t v s ks, h, _ => by unfold Fi.nodes at h; omega
  | N + 1, .mk k t v s ks, h, hw => by
    have e : Fi.nodes (.mk k t v s ks) = 1 + Fi.nodesL ks := by unfold Fi.nodes; rfl
    rw [e] at h
    exact fpPrintS k t v s ks hw (fun f hf => fpPrintN N f (by have := Fi.kid_lt hf; omega) (by have := wt_kid hf; rw [Fi.wt_mk] at hw; omega))
end Go.Proofs.Ythjckklijlfghaa
set_option linter.unusedVariables false
namespace Go.Fi
open Go.Vk
open Go.Dn (typB typC halfV)
/-- Where what is left stands. -/
def posI (s r : List UInt8) : Int := (s.length : Int) - (r.length : Int)
theorem drop_pos {s r : List UInt8} (h : r <:+ s) : s.drop (posI s r).toNat = r := by
  obtain ⟨t, rfl⟩ := h
  unfold posI
  rw [List.length_append, show ((t.length + r.length : Nat) : Int) - (r.length : Int) = (t.length : Int) by omega, Int.toNat_natCast, List.drop_left]
theorem pos_drop {s : List UInt8} {n : Nat} (h : n ≤ s.length) : posI s (s.drop n) = n := by
  unfold posI; rw [List.length_drop]; omega
theorem pos_bd {s r : List UInt8} (h : r <:+ s) : 0 ≤ posI s r ∧ posI s r ≤ s.length := by
  have := h.length_le
  unfold posI; omega
theorem suf_drop (s : List UInt8) (n : Nat) : s.drop n <:+ s := List.drop_suffix n s
theorem pDig_suf (r : List UInt8) (e : Int) : (pDig r e).2.1 <:+ r := by
  cases r with
  | nil => exact List.suffix_refl _
  | cons c t =>
    rw [pDig_cons]
    split
    · exact List.suffix_cons c t
    · exact List.suffix_cons c t
theorem pVal_suf (r : List UInt8) : (pVal r).2.1 <:+ r := by
  induction hn : r.length using Nat.strongRecOn generalizing r with
  | _ n ih =>
    cases r with
    | nil => rw [pVal_nil]; exact List.suffix_refl _
    | cons c t =>
      simp only [List.length_cons] at hn
      by_cases h1 : stopV c = true
      · rw [pVal_stop h1]; exact List.suffix_refl _
      by_cases h2 : c = 0
      · subst h2; rw [pVal_zero]; exact List.suffix_cons _ _
      by_cases h3 : c = 92
      · subst h3
        have h4 := pDig_suf t 0
        have h5 := pDig_suf (pDig t 0).2.1 (pDig t 0).2.2
        have h6 := h5.length_le
        have h7 := h4.length_le
        rw [pVal_esc]
        split
        · exact (ih _ (by omega) (pDig (pDig t 0).2.1 (pDig t 0).2.2).2.1 rfl).trans (h5.trans (h4.trans (List.suffix_cons _ _)))
        · exact h5.trans (h4.trans (List.suffix_cons _ _))
      · rw [pVal_plain (by simpa using h1) h2 h3]
        exact (ih _ (by omega) t rfl).trans (List.suffix_cons _ _)
theorem sign_in (c : UInt8) : noSign c = !decide (0 ≤ Lib.indexByte [61, 60, 62, 126] c) := by
  unfold noSign
  congr 1
  rw [Bool.eq_iff_iff, decide_eq_true_eq, Dn.indexByte_iff]
  simp only [Bool.or_eq_true, decide_eq_true_eq, List.mem_cons, List.not_mem_nil, or_false, or_assoc]
theorem stop_in (c : UInt8) : stopV c = decide (0 ≤ Lib.indexByte [42, 40, 41] c) := by
  unfold stopV
  rw [Bool.eq_iff_iff, decide_eq_true_eq, Dn.indexByte_iff]
  simp only [Bool.or_eq_true, decide_eq_true_eq, List.mem_cons, List.not_mem_nil, or_false, or_assoc]
theorem hex_tab : ∀ i : Fin 256, halfV (UInt8.ofNat i.val) = if 65 ≤ i.val ∧ i.val ≤ 70 then (i.val : Int) - 65 + 10 else Lib.indexByte [48, 49, 50, 51, 52, 53, 54, 55, 56, 57, 97, 98, 99, 100, 101, 102] (UInt8.ofNat i.val) := by decide +kernel
theorem hex_in (c : UInt8) : halfV c = if 65 ≤ (c.toNat : Int) ∧ (c.toNat : Int) ≤ 70 then (c.toNat : Int) - 65 + 10 else Lib.indexByte [48, 49, 50, 51, 52, 53, 54, 55, 56, 57, 97, 98, 99, 100, 101, 102] c := by
  have h := hex_tab ⟨c.toNat, c.toNat_lt⟩
  have e : UInt8.ofNat c.toNat = c := by simp
  dsimp only at h
  rw [e] at h
  rw [h]
  by_cases hc : 65 ≤ c.toNat ∧ c.toNat ≤ 70
  · rw [if_pos hc, if_pos (by omega)]
  · rw [if_neg hc, if_neg (by omega)]
theorem tk_take (t s : List UInt8) : tk t s = decide (s.take t.length = t) := by
  unfold tk
  rw [Bool.eq_iff_iff, List.isPrefixOf_iff_prefix, List.prefix_iff_eq_take, decide_eq_true_eq]
  exact eq_comm
theorem pDig_at {s : List UInt8} {n : Nat} (h : n < s.length) (e : Int) : pDig (s.drop n) e = if halfV (s.getD n 0) < 0 then (0, s.drop (n + 1), failE e 3) else (halfV (s.getD n 0), s.drop (n + 1), e) := by
  rw [Dn.drop_cons h, pDig_cons]
theorem pDig_end {s : List UInt8} {n : Nat} (h : ¬ n < s.length) (e : Int) : pDig (s.drop n) e = (0, [], failE e 3) := by
  rw [List.drop_of_length_le (by omega)]; rfl
theorem halfV_bd15 (c : UInt8) : -1 ≤ halfV c ∧ halfV c ≤ 15 := Dn.halfV_bd c
theorem pDig_bd (r : List UInt8) (e : Int) : 0 ≤ (pDig r e).1 ∧ (pDig r e).1 ≤ 15 := by
  cases r with
  | nil => exact ⟨by simp [pDig], by simp [pDig]⟩
  | cons c t =>
    have := halfV_bd15 c
    rw [pDig_cons]
    split
    · exact ⟨by simp, by simp⟩
    · dsimp only; omega
/-- A value, some of which is there already. -/
def valE (acc r : List UInt8) (e : Int) : List UInt8 × St := if e = 0 then (acc ++ (pVal r).1, (pVal r).2) else (acc, r, e)
theorem valE_start (r : List UInt8) : valE [] r 0 = pVal r := by unfold valE; simp
theorem u8_eq {c : UInt8} {d : UInt8} (h : (c.toNat : Int) = (d.toNat : Int)) : c = d := UInt8.toNat_inj.1 (by omega)
theorem valE_bad {acc r : List UInt8} {e : Int} (h : e ≠ 0) : valE acc r e = (acc, r, e) := if_neg h
theorem valE_zero {acc s : List UInt8} {i : Nat} (h : i < s.length) (hc : s.getD i 0 = 0) : valE acc (s.drop i) 0 = valE (acc ++ [s.getD i 0]) (s.drop (i + 1)) 3 := by
  rw [valE_bad (e := 3) (by decide), Dn.drop_cons h, hc]
  unfold valE
  rw [if_pos rfl, pVal_zero]
theorem valE_esc {acc s : List UInt8} {i : Nat} (h : i < s.length) (hc : s.getD i 0 = 92) : valE acc (s.drop i) 0 = valE (acc ++ [b8 ((pDig (s.drop (i + 1)) 0).1 * 16 + (pDig (pDig (s.drop (i + 1)) 0).2.1 (pDig (s.drop (i + 1)) 0).2.2).1)]) (pDig (pDig (s.drop (i + 1)) 0).2.1 (pDig (s.drop (i + 1)) 0).2.2).2.1 (pDig (pDig (s.drop (i + 1)) 0).2.1 (pDig (s.drop (i + 1)) 0).2.2).2.2 := by
  rw [Dn.drop_cons h, hc]
  unfold valE
  rw [if_pos rfl, pVal_esc]
  split
  · simp
  · rfl
theorem valE_plain {acc s : List UInt8} {i : Nat} (h : i < s.length) (h1 : stopV (s.getD i 0) = false) (h2 : s.getD i 0 ≠ 0) (h3 : s.getD i 0 ≠ 92) : valE acc (s.drop i) 0 = valE (acc ++ [s.getD i 0]) (s.drop (i + 1)) 0 := by
  rw [Dn.drop_cons h]
  unfold valE
  rw [if_pos rfl, if_pos rfl, pVal_plain h1 h2 h3]
  simp
theorem valE_end {acc s : List UInt8} {i : Nat} (h : ¬ i < s.length ∨ stopV (s.getD i 0) = true) : valE acc (s.drop i) 0 = (acc, s.drop i, 0) := by
  unfold valE
  rw [if_pos rfl]
  by_cases hlt : i < s.length
  · rw [Dn.drop_cons hlt, pVal_stop (h.resolve_left (fun x => x hlt))]; simp
  · rw [List.drop_of_length_le (by omega), pVal_nil]; simp
theorem skip_slice (p : UInt8 → Bool) (s : List UInt8) (n : Nat) : (s.take (Dn.skipE p s n)).drop n = (s.drop n).takeWhile p := by
  unfold Dn.skipE
  rw [List.drop_take, show n + ((s.drop n).takeWhile p).length - n = ((s.drop n).takeWhile p).length by omega]
  exact (List.prefix_iff_eq_take.1 (List.takeWhile_prefix p)).symm
theorem skip_drop (p : UInt8 → Bool) (s : List UInt8) (n : Nat) : s.drop (Dn.skipE p s n) = (s.drop n).dropWhile p := by
  unfold Dn.skipE
  rw [← List.drop_drop]
  exact (congrArg (List.drop ((s.drop n).takeWhile p).length) (List.takeWhile_append_dropWhile (p := p) (l := s.drop n))).symm.trans List.drop_left
theorem pKind_at {s : List UInt8} {n i : Nat} (h : Dn.skipE noSign s n = i) : pKind (s.drop n) = ((s.take i).drop n, s.drop i, if typB ((s.take i).drop n) = true then 0 else 3) := by
  subst h
  unfold pKind
  rw [skip_slice, skip_drop]
end Go.Fi
set_option linter.unusedVariables false
namespace Go.Proofs.Ythjckklijlfghaa
open Go.Vk
attribute [local irreducible] HT HX RegS RegA RegM OpP OpC AltT
attribute [local irreducible] Dn.typB Dn.halfV
abbrev PX (g : Nat) (s : List UInt8) (a e : Int) : Res := ownP g 41 [Is (str s), okI .i64 a, okI .i64 e]
theorem slHasPrefix (s t : List UInt8) : CFn Try.prog 64 [Is (str s), Is (str t)] (Is (.bool (Fi.tk t s))) := by
  rw [Fi.tk_take]
  refine CallsC.of Try.call64 Try.func64 rfl Try.ntmps64 rfl fun w0 G0 S0 hs ho => ?_
  refine run ?_
  rw [Int.toNat_natCast, ← Bool.decide_and, decide_eq_decide]
  refine ⟨fun h => h.2, fun h => ⟨?_, h⟩⟩
  have := congrArg List.length h
  rw [List.length_take] at this
  omega
theorem stHasPrefix (s t : List UInt8) : CFn Try.prog 46 [Is (str s), Is (str t)] (Is (.bool (Fi.tk t s))) := by
  have c1 := slHasPrefix
  refine CallsC.of Try.call46 Try.func46 rfl Try.ntmps46 rfl fun w0 G0 S0 hs ho => ?_
  exact run trivial
theorem fpTakes (g : Nat) (s t : List UInt8) (a e : Int) (ha : 0 ≤ a ∧ a ≤ s.length) (hs : s.length ≤ 1000000 ∧ t.length ≤ 100) : CallsC Try.prog 30 [Is (pAt g 0), Is (str t)] [PX g s a e] (fun _ => Is (.bool (Fi.tk t (s.drop a.toNat)))) (fun _ => [PX g s (if Fi.tk t (s.drop a.toNat) = true then a + t.length else a) e]) := by
  have c1 := stHasPrefix
  refine CallsC.of Try.call30 Try.func30 rfl Try.ntmps30 rfl fun w0 G0 S0 hs ho => ?_
  refine run ?_
  exact ⟨fun h => by rw [h]; rfl, fun h => by rw [h]; rfl⟩
theorem fpFail (g : Nat) (s : List UInt8) (a e c : Int) : CallsC Try.prog 31 [Is (pAt g 0), okI .i64 c] [PX g s a e] (fun _ => TTup []) (fun _ => [PX g s a (Fi.failE e c)]) := by
  refine CallsC.of Try.call31 Try.func31 rfl Try.ntmps31 rfl fun w0 G0 S0 hs ho => ?_
  refine run ?_
  exact ⟨fun h => (if_pos h).symm, fun h => (if_neg h).symm⟩
theorem fpDigit (g : Nat) (s : List UInt8) (a e : Int) (ha : 0 ≤ a ∧ a ≤ s.length) (hs : s.length ≤ 1000000) : CallsC Try.prog 65 [Is (pAt g 0)] [PX g s a e] (fun _ => okI .u8 (Fi.pDig (s.drop a.toNat) e).1) (fun _ => [PX g s (Fi.posI s (Fi.pDig (s.drop a.toNat) e).2.1) (Fi.pDig (s.drop a.toNat) e).2.2]) := by
  have c1 := fpFail
  have c2 := stIndexByte
  obtain ⟨n, rfl⟩ : ∃ n : Nat, a = (n : Int) := ⟨a.toNat, by omega⟩
  rw [Int.toNat_natCast]
  by_cases hlt : n < s.length
  · have hx := Fi.hex_in (s.getD n 0)
    have hb := Fi.halfV_bd15 (s.getD n 0)
    have hp := Fi.pos_drop (s := s) (n := n + 1) (by omega)
    rw [Fi.pDig_at hlt]
    refine CallsC.of Try.call65 Try.func65 rfl Try.ntmps65 rfl fun w0 G0 S0 hs ho => ?_
    refine run ?_
    by_cases hneg : Dn.halfV (s.getD n 0) < 0
    · rw [if_pos hneg]
      dsimp only
      and_intros
      all_goals intros
      all_goals (try rw [if_pos (by assumption)] at hx)
      all_goals (try rw [if_neg (by omega)] at hx)
      all_goals first | omega | rfl
    · rw [if_neg hneg]
      dsimp only
      and_intros
      all_goals intros
      all_goals (try rw [if_pos (by assumption)] at hx)
      all_goals (try rw [if_neg (by omega)] at hx)
      all_goals first | omega | rfl | (rw [← hx]; exact b8_of (by omega))
  · rw [Fi.pDig_end hlt]
    have hp : Fi.posI s [] = s.length := by unfold Fi.posI; simp
    rw [hp]
    refine CallsC.of Try.call65 Try.func65 rfl Try.ntmps65 rfl fun w0 G0 S0 hs ho => ?_
    exact run trivial
theorem fpKind (g : Nat) (s : List UInt8) (a : Int) (ha : 0 ≤ a ∧ a ≤ s.length) (hs : s.length ≤ 1000000) : CallsC Try.prog 47 [Is (pAt g 0)] [PX g s a 0] (fun _ => Is (str (Fi.pKind (s.drop a.toNat)).1)) (fun _ => [PX g s (Fi.posI s (Fi.pKind (s.drop a.toNat)).2.1) (Fi.pKind (s.drop a.toNat)).2.2]) := by
  have c1 := fpFail
  have c2 := stIndexByte
  have c3 := dnType
  obtain ⟨n, rfl⟩ : ∃ n : Nat, a = (n : Int) := ⟨a.toNat, by omega⟩
  rw [Int.toNat_natCast]
  refine CallsC.of Try.call47 Try.func47 rfl Try.ntmps47 rfl fun w0 G0 S0 hs ho => ?_
  refine run ?_
  refine HT.loopX (σ := Nat) [0, 2, 3] (fun i => []) (fun i => [PX g s (i : Int) 0]) (fun i => n ≤ i ∧ i ≤ s.length ∧ Dn.skipE Fi.noSign s i = Dn.skipE Fi.noSign s n) (fun i => s.length - i) n ⟨Nat.le_refl _, by omega, rfl⟩ (run trivial) (run trivial) ?_
  rintro i ⟨hn, hi, he⟩
  have hsg := Fi.sign_in (s.getD i 0)
  refine run ?_
  refine ⟨fun h1 => ?_, ?_⟩
  · have hy : Fi.noSign (s.getD i 0) = true := by rw [hsg, decide_eq_false (by omega)]; rfl
    exact HX.roundX (i + 1) ⟨⟨by omega, by omega, by rw [← he]; exact (Dn.skipE_yes (by omega) hy).symm⟩, by omega⟩ rfl (run trivial) (run trivial)
  have hk : (¬ (i : Int) < (s.length : Int) ∨ ¬ Lib.indexByte [61, 60, 62, 126] (s.getD i 0) < 0) → Fi.pKind (s.drop n) = ((s.take i).drop n, s.drop i, if Dn.typB ((s.take i).drop n) = true then 0 else 3) := fun h => by
    refine Fi.pKind_at (he.symm.trans (Dn.skipE_no fun hlt => ?_))
    rw [hsg, decide_eq_true (by omega)]; rfl
  have hp := Fi.pos_drop hi
  and_intros
  all_goals (intro h1 h2; rw [hk h1])
  · exact hp.symm
  · dsimp only; rw [h2]; rfl
  · rfl
  · exact hp.symm
  · dsimp only; rw [h2]; rfl
  · rfl
set_option maxHeartbeats 4000000 in
theorem fpValue (g : Nat) (s : List UInt8) (a : Int) (ha : 0 ≤ a ∧ a ≤ s.length) (hs : s.length ≤ 1000000) : CallsC Try.prog 49 [Is (pAt g 0)] [PX g s a 0] (fun _ => Is (str (Fi.pVal (s.drop a.toNat)).1)) (fun _ => [PX g s (Fi.posI s (Fi.pVal (s.drop a.toNat)).2.1) (Fi.pVal (s.drop a.toNat)).2.2]) := by
  have c1 := fpFail
  have c2 := stIndexByte
  have c3 := fpDigit
  obtain ⟨n, rfl⟩ : ∃ n : Nat, a = (n : Int) := ⟨a.toNat, by omega⟩
  rw [Int.toNat_natCast]
  refine CallsC.of Try.call49 Try.func49 rfl Try.ntmps49 rfl fun w0 G0 S0 hs ho => ?_
  refine run ?_
  refine HT.loopX (σ := List UInt8 × Nat × Int × Value) [0, 2] (fun t => [(3, TAnd (Is t.2.2.2) (TBytes t.1))]) (fun t => [PX g s (t.2.1 : Int) t.2.2.1, ownSl t.2.2.2 1 5]) (fun t => t.2.1 ≤ s.length ∧ t.1.length ≤ t.2.1 ∧ Fi.valE t.1 (s.drop t.2.1) t.2.2.1 = Fi.pVal (s.drop n)) (fun t => if t.2.2.1 = 0 then s.length - t.2.1 + 1 else 0) ([], n, 0, .slice none 0 0) ⟨by dsimp only; omega, by simp, Fi.valE_start _⟩ (run trivial) (run trivial) ?_
  rintro ⟨acc, i, e, v⟩ ⟨hi, hl, he⟩
  dsimp only at hi hl he ⊢
  have hst := Fi.stop_in (s.getD i 0)
  have e1 : s.drop ((i : Int) + 1).toNat = s.drop (i + 1) := by rw [show ((i : Int) + 1).toNat = i + 1 by omega]
  have hsf1 : (Fi.pDig (s.drop ((i : Int) + 1).toNat) 0).2.1 <:+ s := (Fi.pDig_suf _ _).trans (Fi.suf_drop _ _)
  have hb1 := Fi.pos_bd hsf1
  have hd1 := Fi.pDig_bd (s.drop ((i : Int) + 1).toNat) 0
  have e2 := Fi.drop_pos hsf1
  have hd2 := Fi.pDig_bd (s.drop (Fi.posI s (Fi.pDig (s.drop ((i : Int) + 1).toNat) 0).2.1).toNat) (Fi.pDig (s.drop ((i : Int) + 1).toNat) 0).2.2
  by_cases he0 : e = 0
  · subst he0
    have hi1 : (i : Int) < (s.length : Int) → (i + 1 ≤ s.length ∧ Fi.posI s (s.drop (i + 1)) = (i : Int) + 1) := fun h => ⟨by omega, by rw [Fi.pos_drop (by omega)]; omega⟩
    refine run ?_
    refine ⟨fun v' h1 h2 => ?_, fun v' h1 h2 h3 => ?_, fun v' h1 h2 h3 => ?_, ?_⟩
    · have hz := Fi.valE_zero (acc := acc) (s := s) (i := i) (by omega) (Fi.u8_eq h2)
      rw [he] at hz
      refine HX.roundX (acc ++ [s.getD i 0], i + 1, 3, v') ⟨⟨by dsimp only; omega, by simp; omega, hz.symm⟩, by dsimp only; rw [if_neg (by decide), if_pos rfl]; omega⟩ rfl (run ?_) (run trivial)
      rfl
    · have hz := Fi.valE_esc (acc := acc) (s := s) (i := i) (by omega) (Fi.u8_eq (d := 92) h3)
      have hsf2 : (Fi.pDig (s.drop (Fi.posI s (Fi.pDig (s.drop ((i : Int) + 1).toNat) 0).2.1).toNat) (Fi.pDig (s.drop ((i : Int) + 1).toNat) 0).2.2).2.1 <:+ s := (Fi.pDig_suf _ _).trans (Fi.suf_drop _ _)
      have hb2 := Fi.pos_bd hsf2
      have hle : (Fi.pDig (s.drop (Fi.posI s (Fi.pDig (s.drop ((i : Int) + 1).toNat) 0).2.1).toNat) (Fi.pDig (s.drop ((i : Int) + 1).toNat) 0).2.2).2.1.length ≤ s.length - (i + 1) := by
        have k1 := Fi.pDig_le (s.drop (Fi.posI s (Fi.pDig (s.drop ((i : Int) + 1).toNat) 0).2.1).toNat) (Fi.pDig (s.drop ((i : Int) + 1).toNat) 0).2.2
        have k2 := Fi.pDig_le (s.drop ((i : Int) + 1).toNat) 0
        rw [e2] at k1
        rw [e1, List.length_drop] at k2
        rw [e2, e1]
        rw [e1] at k1
        omega
      have hpos : (i : Int) + 1 ≤ Fi.posI s (Fi.pDig (s.drop (Fi.posI s (Fi.pDig (s.drop ((i : Int) + 1).toNat) 0).2.1).toNat) (Fi.pDig (s.drop ((i : Int) + 1).toNat) 0).2.2).2.1 := by
        unfold Fi.posI at hle hb2 ⊢
        omega
      have e3 := Fi.drop_pos hsf2
      rw [he, ← e1, ← e2] at hz
      refine HX.roundX (acc ++ [b8 ((Fi.pDig (s.drop ((i : Int) + 1).toNat) 0).1 * 16 + (Fi.pDig (s.drop (Fi.posI s (Fi.pDig (s.drop ((i : Int) + 1).toNat) 0).2.1).toNat) (Fi.pDig (s.drop ((i : Int) + 1).toNat) 0).2.2).1)], (Fi.posI s (Fi.pDig (s.drop (Fi.posI s (Fi.pDig (s.drop ((i : Int) + 1).toNat) 0).2.1).toNat) (Fi.pDig (s.drop ((i : Int) + 1).toNat) 0).2.2).2.1).toNat, (Fi.pDig (s.drop (Fi.posI s (Fi.pDig (s.drop ((i : Int) + 1).toNat) 0).2.1).toNat) (Fi.pDig (s.drop ((i : Int) + 1).toNat) 0).2.2).2.2, v') ⟨⟨by dsimp only; omega, by dsimp only; rw [List.length_append, List.length_singleton]; omega, ?_⟩, ?_⟩ rfl (run trivial) (run trivial)
      · dsimp only
        rw [e3]; exact hz.symm
      · dsimp only
        rw [if_pos rfl]
        split <;> omega
    · have hz := Fi.valE_plain (acc := acc) (s := s) (i := i) (by omega) (by rw [hst, decide_eq_false (by omega)]) (fun e => h2 (by rw [e]; rfl)) (fun e => h3 (by rw [e]; rfl))
      rw [he] at hz
      exact HX.roundX (acc ++ [s.getD i 0], i + 1, 0, v') ⟨⟨by dsimp only; omega, by simp; omega, hz.symm⟩, by dsimp only; rw [if_pos rfl, if_pos rfl]; omega⟩ rfl (run trivial) (run trivial)
    · have hend : (¬ (i : Int) < (s.length : Int) ∨ ¬ Lib.indexByte [42, 40, 41] (s.getD i 0) < 0) → Fi.pVal (s.drop n) = (acc, s.drop i, 0) := fun h => by
        rw [← he]
        refine Fi.valE_end ?_
        rcases h with h | h
        · exact .inl (by omega)
        · exact .inr (by rw [hst, decide_eq_true (by omega)])
      have hp := Fi.pos_drop hi
      and_intros
      all_goals (intro h1; rw [hend h1])
      exact hp.symm
  · have hend : Fi.pVal (s.drop n) = (acc, s.drop i, e) := by rw [← he, Fi.valE_bad he0]
    have hp := Fi.pos_drop hi
    rw [hend]
    exact run trivial
end Go.Proofs.Ythjckklijlfghaa
