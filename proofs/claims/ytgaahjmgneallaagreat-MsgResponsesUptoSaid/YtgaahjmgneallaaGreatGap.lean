/-
  The contract of the program's Is of filters: every filter, however deep.
  The contract of the program's Is of filters: And, Or, Not.
  The contract of the program's Is of filters: Equal, Greater, Less.
  The contract of the program's Is of filters: Sub, Present, others.
  The contract of the program's Is of filters: every filter, however deep.
  Requests: the plain structure; the contracts of the program's unnamed, Same, sound.
  The contracts of what the encoding of an unbind reaches, at that request; and of MsgFrames.
  The contracts of the program's Same and sound.
-/
import Derived.Test.YtgaahjmgneallaaGreatGao
import Derived.Test.YtgaahjmgneallaaGreatGam
import Derived.Test.YtgaahjmgneallaaGreatGan
set_option linter.unusedSimpArgs false
set_option linter.unusedVariables false
set_option linter.unusedVariables false
namespace Go.Fi
open Go.Vk
open Go.Dn (typB)
def badIx : List Fil → Nat → Int → Nat
  | [], _, _ => 0
  | f :: r, deep, left => if (mayF f deep left).1 = true then badIx r deep (mayF f deep left).2 + 1 else 0
def mayIx (l : List Fil) (deep : Nat) (left : Int) : Int := if (mayL l deep left).1 = true then -1 else (badIx l deep left : Int)
theorem mayL_cons (f : Fil) (r : List Fil) (deep : Nat) (left : Int) : mayL (f :: r) deep left = if (mayF f deep left).1 = true then mayL r deep (mayF f deep left).2 else (false, (mayF f deep left).2) := by conv => lhs; unfold mayL
theorem badIx_cons (f : Fil) (r : List Fil) (deep : Nat) (left : Int) : badIx (f :: r) deep left = if (mayF f deep left).1 = true then badIx r deep (mayF f deep left).2 + 1 else 0 := rfl
theorem may_left {f : Fil} {deep : Nat} {left : Int} (h0 : 0 ≤ left) (h : (mayF f deep left).1 = true) : 0 ≤ (mayF f deep left).2 ∧ (mayF f deep left).2 ≤ left := by
  obtain ⟨h1, h2⟩ := may_one f deep left h0
  rw [h2 h]
  rw [h1, Bool.and_eq_true, decide_eq_true_eq] at h
  omega
theorem nodes_pos (f : Fil) : 1 ≤ nodes f := by
  cases f with
  | mk k t v s ks => rw [nodes]; omega
theorem kid_nodes : ∀ {l : List Fil} {f : Fil}, f ∈ l → nodes f ≤ nodesL l
  | [], f, h => by simp at h
  | g :: r, f, h => by
    rw [nodesL]
    rcases List.mem_cons.1 h with rfl | h
    · omega
    · have := kid_nodes h; omega
theorem getF_mem {l : List Fil} {i : Nat} (h : i < l.length) : l.getD i default ∈ l := En.getD_mem h
theorem dropF {l : List Fil} {i : Nat} (h : i < l.length) : l.drop i = l.getD i default :: l.drop (i + 1) := by
  rw [List.drop_eq_getElem_cons h, List.getD_eq_getElem?_getD, List.getElem?_eq_getElem h]; rfl
theorem mayIx_sign (l : List Fil) (deep : Nat) (left : Int) : decide (0 ≤ mayIx l deep left) = !(mayL l deep left).1 := by
  unfold mayIx
  cases (mayL l deep left).1
  · simp
  · rfl
theorem mayF_mk (k : Int) (t v : List UInt8) (s : List (List UInt8)) (ks : List Fil) (deep : Nat) (left : Int) : mayF (.mk k t v s ks) deep left = if left - 1 < 0 ∨ 16 ≤ deep then (false, left - 1) else if mayH (.mk k t v s ks) = true then mayL ks (deep + 1) (left - 1) else (false, left - 1) := by conv => lhs; unfold mayF
theorem len0 {α : Type} [DecidableEq (List α)] (l : List α) : decide ((l.length : Int) = 0) = decide (l = []) := by
  refine decide_eq_decide.2 ⟨fun h => List.eq_nil_of_length_eq_zero (by omega), fun h => by rw [h]; rfl⟩
theorem len0F (l : List Fil) : decide ((l.length : Int) = 0) = decide (l = []) := by
  refine decide_eq_decide.2 ⟨fun h => List.eq_nil_of_length_eq_zero (by omega), fun h => by rw [h]; rfl⟩
theorem mayH_0 {k : Int} (hk : k = 0 ∨ k = 1 ∨ k = 2) (t v : List UInt8) (s : List (List UInt8)) (ks : List Fil) : mayH (.mk k t v s ks) = (decide (t = []) && decide (v = []) && decide ((s.length : Int) = 0) && (!decide ((ks.length : Int) = 0) && (decide (k ≠ 2) || decide ((ks.length : Int) = 1)))) := by
  rw [mayH_mk, if_pos hk, len0, len0F]
  have : decide (ks.length = 1) = decide ((ks.length : Int) = 1) := decide_eq_decide.2 (by omega)
  rw [this, decide_not]
theorem mayH_3 {k : Int} (hk : k = 3 ∨ k = 5 ∨ k = 6) (t v : List UInt8) (s : List (List UInt8)) (ks : List Fil) : mayH (.mk k t v s ks) = (typB t && decide ((v.length : Int) ≤ 256) && decide ((s.length : Int) = 0) && decide ((ks.length : Int) = 0)) := by
  rw [mayH_mk, if_neg (by omega), if_pos hk, len0, len0F]
  rfl
theorem mayH_4 (t v : List UInt8) (s : List (List UInt8)) (ks : List Fil) : mayH (.mk 4 t v s ks) = (typB t && decide (v = []) && subsB s && decide ((ks.length : Int) = 0)) := by
  rw [mayH_mk, if_neg (by omega), if_neg (by omega), if_pos rfl, len0F]
theorem mayH_7 (t v : List UInt8) (s : List (List UInt8)) (ks : List Fil) : mayH (.mk 7 t v s ks) = (typB t && decide (v = []) && decide ((s.length : Int) = 0) && decide ((ks.length : Int) = 0)) := by
  rw [mayH_mk, if_neg (by omega), if_neg (by omega), if_neg (by omega), if_pos rfl, len0, len0F]
theorem mayH_x {k : Int} (hk : ¬ (k = 0 ∨ k = 1 ∨ k = 2) ∧ ¬ (k = 3 ∨ k = 5 ∨ k = 6) ∧ k ≠ 4 ∧ k ≠ 7) (t v : List UInt8) (s : List (List UInt8)) (ks : List Fil) : mayH (.mk k t v s ks) = false := by
  rw [mayH_mk, if_neg hk.1, if_neg hk.2.1, if_neg hk.2.2.1, if_neg hk.2.2.2]
end Go.Fi
set_option maxRecDepth 8000
set_option linter.unusedVariables false
namespace Go.Proofs.YtgaahjmgneallaaGreat
open Go.Vk
attribute [local irreducible] HT HX RegS RegA RegM OpP OpC AltT
attribute [local irreducible] Dn.typB Fi.mayF Fi.mayL Fi.mayIx Fi.badIx Fi.subsB
abbrev LX (g : Nat) (left : Int) : Res := ownP g 3 [okI .i64 left]
theorem ixFil {f : FuncId} {Cs : List Ty} (l : List Fi.Fil) (deep g : Nat) (left : Int) (hl : l.length ≤ 1000000) (h0 : 0 ≤ left ∧ left ≤ 1000) (cf : ∀ k ∈ l, ∀ n : Int, 0 ≤ n → n ≤ 1000 → CallsC Tryz.prog f ([TAgg (Fi.cF k)] ++ Cs) [LX g n] (fun _ => Is (.bool (!(Fi.mayF k deep n).1))) (fun _ => [LX g (Fi.mayF k deep n).2])) : CallsC Tryz.prog 151 [TSl 5 Fi.cF l, TFn f Cs] [LX g left] (fun _ => okI .i64 (Fi.mayIx l deep left)) (fun _ => [LX g (Fi.mayL l deep left).2]) := by
  refine CallsC.of Tryz.call151 Tryz.func151 rfl Tryz.ntmps151 rfl fun w0 G0 S0 hs ho => ?_
  refine run ?_
  refine HT.loopX (σ := Nat × Int) [0, 1, 7] (fun t => [(8, okI .i64 (t.1 : Int))]) (fun t => [LX g t.2]) (fun t => t.1 ≤ l.length ∧ (0 ≤ t.2 ∧ t.2 ≤ 1000) ∧ Fi.mayL (l.drop t.1) deep t.2 = Fi.mayL l deep left ∧ Fi.badIx l deep left = t.1 + Fi.badIx (l.drop t.1) deep t.2) (fun t => l.length - t.1) (0, left) ⟨Nat.zero_le _, h0, rfl, by simp⟩ (run trivial) (run trivial) ?_
  rintro ⟨i, n⟩ ⟨hi, hn, hm, hx⟩
  dsimp only at hi hn hm hx ⊢
  by_cases hlt : i < l.length
  · have c1 := cf _ (Fi.getF_mem hlt) n hn.1 hn.2
    clear cf
    rw [Fi.dropF hlt, Fi.mayL_cons] at hm
    rw [Fi.dropF hlt, Fi.badIx_cons] at hx
    have hlf := fun h => Fi.may_left (f := l.getD i default) (deep := deep) hn.1 h
    refine run ?_
    refine ⟨fun _ h => ?_, fun _ h => ?_, fun _ h => ?_⟩
    · rw [if_neg (by rw [h]; simp)] at hm
      rw [← hm]
    · rw [if_neg (by rw [h]; simp)] at hm hx
      unfold Fi.mayIx
      rw [← hm, if_neg (by simp), hx]
      rfl
    · rw [if_pos h] at hm hx
      have := hlf h
      exact HX.roundX (i + 1, (Fi.mayF (l.getD i default) deep n).2) ⟨⟨by dsimp only; omega, by dsimp only; omega, hm, by dsimp only; omega⟩, by dsimp only; omega⟩ rfl (run trivial) (run trivial)
  · clear cf
    rw [List.drop_of_length_le (by omega)] at hm
    have e : Fi.mayL [] deep n = (true, n) := by unfold Fi.mayL; rfl
    rw [e] at hm
    refine run ?_
    refine ⟨fun _ => by rw [← hm], fun _ => ?_⟩
    unfold Fi.mayIx
    rw [← hm]; rfl
theorem anyFil {f : FuncId} {Cs : List Ty} (l : List Fi.Fil) (deep g : Nat) (left : Int) (hl : l.length ≤ 1000000) (h0 : 0 ≤ left ∧ left ≤ 1000) (cf : ∀ k ∈ l, ∀ n : Int, 0 ≤ n → n ≤ 1000 → CallsC Tryz.prog f ([TAgg (Fi.cF k)] ++ Cs) [LX g n] (fun _ => Is (.bool (!(Fi.mayF k deep n).1))) (fun _ => [LX g (Fi.mayF k deep n).2])) : CallsC Tryz.prog 144 [TSl 5 Fi.cF l, TFn f Cs] [LX g left] (fun _ => Is (.bool (!(Fi.mayL l deep left).1))) (fun _ => [LX g (Fi.mayL l deep left).2]) := by
  have c1 := ixFil l deep g left hl h0 cf
  clear cf
  refine CallsC.of Tryz.call144 Tryz.func144 rfl Tryz.ntmps144 rfl fun w0 G0 S0 hs ho => ?_
  refine run ?_
  exact Fi.mayIx_sign l deep left
/-- What the contract of may is. -/
def MayC (f : Fi.Fil) : Prop := ∀ (deep g : Nat) (left : Int), deep ≤ 100 → 0 ≤ left → left ≤ 1000 → CallsC Tryz.prog 131 [TAgg (Fi.cF f), okI .i64 (deep : Int), Is (pAt g 0)] [LX g left] (fun _ => Is (.bool (Fi.mayF f deep left).1)) (fun _ => [LX g (Fi.mayF f deep left).2])
theorem fpMay1 (k : Fi.Fil) (h : MayC k) (deep g : Nat) (n : Int) (hd : deep ≤ 99) (h0 : 0 ≤ n) (h1 : n ≤ 1000) : CallsC Tryz.prog 145 ([TAgg (Fi.cF k)] ++ [TPc [okI .i64 (deep : Int)], TPc [Is (pAt g 0)]]) [LX g n] (fun _ => Is (.bool (!(Fi.mayF k (deep + 1) n).1))) (fun _ => [LX g (Fi.mayF k (deep + 1) n).2]) := by
  have c1 := h (deep + 1) g n (by omega) h0 h1
  rw [show ((deep + 1 : Nat) : Int) = (deep : Int) + 1 by omega] at c1
  refine CallsC.of Tryz.call145 Tryz.func145 rfl Tryz.ntmps145 rfl fun w0 G0 S0 hs ho => ?_
  exact run trivial
theorem wt_kid : ∀ {l : List Fi.Fil} {f : Fi.Fil}, f ∈ l → Fi.wt f ≤ Fi.wtL l
  | [], f, h => by simp at h
  | g :: r, f, h => by
    rw [Fi.wtL]
    rcases List.mem_cons.1 h with rfl | h
    · omega
    · have := wt_kid h; omega
theorem wtL_len : ∀ l : List Fi.Fil, l.length ≤ Fi.wtL l
  | [] => Nat.le_refl _
  | f :: r => by
    have := wtL_len r
    rw [Fi.wtL]
    cases f with
    | mk k t v s ks => rw [Fi.wt]; simp only [List.length_cons]; omega
theorem subsW_len : ∀ l : List (List UInt8), l.length ≤ Fi.subsW l
  | [] => Nat.le_refl _
  | s :: r => by
    have := subsW_len r
    rw [Fi.subsW]; simp only [List.length_cons]; omega
end Go.Proofs.YtgaahjmgneallaaGreat
set_option linter.unusedVariables false
set_option maxRecDepth 8000
set_option linter.unusedVariables false
namespace Go.Proofs.YtgaahjmgneallaaGreat
open Go.Vk
attribute [local irreducible] HT HX RegS RegA RegM OpP OpC AltT
attribute [local irreducible] Dn.typB Fi.mayF Fi.mayL Fi.mayIx Fi.badIx Fi.subsB
set_option maxHeartbeats 8000000 in
theorem fpMay_0 (t v : List UInt8) (s : List (List UInt8)) (ks : List Fi.Fil) (hk : ∀ f ∈ ks, MayC f) (hw : Fi.wt (.mk 0 t v s ks) ≤ 1000000) : MayC (.mk 0 t v s ks) := by
  intro deep g left hd h0 h1
  have hw' := hw
  rw [Fi.wt] at hw'
  have w1 := wtL_len ks
  have w2 := subsW_len s
  rw [Fi.mayF_mk, Fi.cF_open]
  dsimp only [Fi.Fil.kind, Fi.Fil.typ, Fi.Fil.val, Fi.Fil.subs, Fi.Fil.kids]
  have c1 := dnType t
  have c2 := fpSubs s
  by_cases hout : left - 1 < 0 ∨ 16 ≤ deep
  · rw [if_pos hout]
    clear hk
    refine CallsC.of Tryz.call131 Tryz.func131 rfl Tryz.ntmps131 rfl fun w0 G0 S0 hs ho => ?_
    exact run trivial
  · rw [if_neg hout]
    have c3 := anyFil (f := 145) (Cs := [TPc [okI .i64 (deep : Int)], TPc [Is (pAt g 0)]]) ks (deep + 1) g (left - 1) (by omega) (by omega) (fun k hk' n n0 n1 => fpMay1 k (hk k hk') deep g n (by omega) n0 n1)
    clear hk
    have su := Sure.mk' [86, 87, 88, 89, 90]
    rw [Fi.mayH_0 (by simp)]
    have st := Stop.mk' 18
    refine CallsC.of Tryz.call131 Tryz.func131 rfl Tryz.ntmps131 rfl fun w0 G0 S0 hs ho => ?_
    refine run ?_
    intros
    refine HTs.mk ?_
    clear st
    cases hB : (decide (t = []) && decide (v = []) && decide ((s.length : Int) = 0) && (!decide ((ks.length : Int) = 0) && (decide ((0 : Int) ≠ 2) || decide ((ks.length : Int) = 1)))) with
    | true =>
      rw [if_pos rfl]
      refine run ?_
      intros
      rw [hB]; simp
    | false =>
      rw [if_neg (by simp)]
      refine run ?_
      intros
      rw [hB]; simp
set_option maxHeartbeats 8000000 in
theorem fpMay_1 (t v : List UInt8) (s : List (List UInt8)) (ks : List Fi.Fil) (hk : ∀ f ∈ ks, MayC f) (hw : Fi.wt (.mk 1 t v s ks) ≤ 1000000) : MayC (.mk 1 t v s ks) := by
  intro deep g left hd h0 h1
  have hw' := hw
  rw [Fi.wt] at hw'
  have w1 := wtL_len ks
  have w2 := subsW_len s
  rw [Fi.mayF_mk, Fi.cF_open]
  dsimp only [Fi.Fil.kind, Fi.Fil.typ, Fi.Fil.val, Fi.Fil.subs, Fi.Fil.kids]
  have c1 := dnType t
  have c2 := fpSubs s
  by_cases hout : left - 1 < 0 ∨ 16 ≤ deep
  · rw [if_pos hout]
    clear hk
    refine CallsC.of Tryz.call131 Tryz.func131 rfl Tryz.ntmps131 rfl fun w0 G0 S0 hs ho => ?_
    exact run trivial
  · rw [if_neg hout]
    have c3 := anyFil (f := 145) (Cs := [TPc [okI .i64 (deep : Int)], TPc [Is (pAt g 0)]]) ks (deep + 1) g (left - 1) (by omega) (by omega) (fun k hk' n n0 n1 => fpMay1 k (hk k hk') deep g n (by omega) n0 n1)
    clear hk
    have su := Sure.mk' [86, 87, 88, 89, 90]
    rw [Fi.mayH_0 (by simp)]
    have st := Stop.mk' 18
    refine CallsC.of Tryz.call131 Tryz.func131 rfl Tryz.ntmps131 rfl fun w0 G0 S0 hs ho => ?_
    refine run ?_
    intros
    refine HTs.mk ?_
    clear st
    cases hB : (decide (t = []) && decide (v = []) && decide ((s.length : Int) = 0) && (!decide ((ks.length : Int) = 0) && (decide ((1 : Int) ≠ 2) || decide ((ks.length : Int) = 1)))) with
    | true =>
      rw [if_pos rfl]
      refine run ?_
      intros
      rw [hB]; simp
    | false =>
      rw [if_neg (by simp)]
      refine run ?_
      intros
      rw [hB]; simp
set_option maxHeartbeats 8000000 in
theorem fpMay_2 (t v : List UInt8) (s : List (List UInt8)) (ks : List Fi.Fil) (hk : ∀ f ∈ ks, MayC f) (hw : Fi.wt (.mk 2 t v s ks) ≤ 1000000) : MayC (.mk 2 t v s ks) := by
  intro deep g left hd h0 h1
  have hw' := hw
  rw [Fi.wt] at hw'
  have w1 := wtL_len ks
  have w2 := subsW_len s
  rw [Fi.mayF_mk, Fi.cF_open]
  dsimp only [Fi.Fil.kind, Fi.Fil.typ, Fi.Fil.val, Fi.Fil.subs, Fi.Fil.kids]
  have c1 := dnType t
  have c2 := fpSubs s
  by_cases hout : left - 1 < 0 ∨ 16 ≤ deep
  · rw [if_pos hout]
    clear hk
    refine CallsC.of Tryz.call131 Tryz.func131 rfl Tryz.ntmps131 rfl fun w0 G0 S0 hs ho => ?_
    exact run trivial
  · rw [if_neg hout]
    have c3 := anyFil (f := 145) (Cs := [TPc [okI .i64 (deep : Int)], TPc [Is (pAt g 0)]]) ks (deep + 1) g (left - 1) (by omega) (by omega) (fun k hk' n n0 n1 => fpMay1 k (hk k hk') deep g n (by omega) n0 n1)
    clear hk
    have su := Sure.mk' [86, 87, 88, 89, 90]
    rw [Fi.mayH_0 (by simp)]
    have st := Stop.mk' 18
    refine CallsC.of Tryz.call131 Tryz.func131 rfl Tryz.ntmps131 rfl fun w0 G0 S0 hs ho => ?_
    refine run ?_
    intros
    refine HTs.mk ?_
    clear st
    cases hB : (decide (t = []) && decide (v = []) && decide ((s.length : Int) = 0) && (!decide ((ks.length : Int) = 0) && (decide ((2 : Int) ≠ 2) || decide ((ks.length : Int) = 1)))) with
    | true =>
      rw [if_pos rfl]
      refine run ?_
      intros
      rw [hB]; simp
    | false =>
      rw [if_neg (by simp)]
      refine run ?_
      intros
      rw [hB]; simp
end Go.Proofs.YtgaahjmgneallaaGreat
set_option linter.unusedVariables false
set_option maxRecDepth 8000
set_option linter.unusedVariables false
namespace Go.Proofs.YtgaahjmgneallaaGreat
open Go.Vk
attribute [local irreducible] HT HX RegS RegA RegM OpP OpC AltT
attribute [local irreducible] Dn.typB Fi.mayF Fi.mayL Fi.mayIx Fi.badIx Fi.subsB
set_option maxHeartbeats 8000000 in
theorem fpMay_3 (t v : List UInt8) (s : List (List UInt8)) (ks : List Fi.Fil) (hk : ∀ f ∈ ks, MayC f) (hw : Fi.wt (.mk 3 t v s ks) ≤ 1000000) : MayC (.mk 3 t v s ks) := by
  intro deep g left hd h0 h1
  have hw' := hw
  rw [Fi.wt] at hw'
  have w1 := wtL_len ks
  have w2 := subsW_len s
  rw [Fi.mayF_mk, Fi.cF_open]
  dsimp only [Fi.Fil.kind, Fi.Fil.typ, Fi.Fil.val, Fi.Fil.subs, Fi.Fil.kids]
  have c1 := dnType t
  have c2 := fpSubs s
  by_cases hout : left - 1 < 0 ∨ 16 ≤ deep
  · rw [if_pos hout]
    clear hk
    refine CallsC.of Tryz.call131 Tryz.func131 rfl Tryz.ntmps131 rfl fun w0 G0 S0 hs ho => ?_
    exact run trivial
  · rw [if_neg hout]
    have c3 := anyFil (f := 145) (Cs := [TPc [okI .i64 (deep : Int)], TPc [Is (pAt g 0)]]) ks (deep + 1) g (left - 1) (by omega) (by omega) (fun k hk' n n0 n1 => fpMay1 k (hk k hk') deep g n (by omega) n0 n1)
    clear hk
    have su := Sure.mk' [86, 87, 88, 89, 90]
    rw [Fi.mayH_3 (by simp)]
    have st := Stop.mk' 18
    refine CallsC.of Tryz.call131 Tryz.func131 rfl Tryz.ntmps131 rfl fun w0 G0 S0 hs ho => ?_
    refine run ?_
    intros
    refine HTs.mk ?_
    clear st
    cases hB : (Dn.typB t && decide ((v.length : Int) ≤ 256) && decide ((s.length : Int) = 0) && decide ((ks.length : Int) = 0)) with
    | true =>
      rw [if_pos rfl]
      refine run ?_
      intros
      rw [hB]; simp
    | false =>
      rw [if_neg (by simp)]
      refine run ?_
      intros
      rw [hB]; simp
set_option maxHeartbeats 8000000 in
theorem fpMay_5 (t v : List UInt8) (s : List (List UInt8)) (ks : List Fi.Fil) (hk : ∀ f ∈ ks, MayC f) (hw : Fi.wt (.mk 5 t v s ks) ≤ 1000000) : MayC (.mk 5 t v s ks) := by
  intro deep g left hd h0 h1
  have hw' := hw
  rw [Fi.wt] at hw'
  have w1 := wtL_len ks
  have w2 := subsW_len s
  rw [Fi.mayF_mk, Fi.cF_open]
  dsimp only [Fi.Fil.kind, Fi.Fil.typ, Fi.Fil.val, Fi.Fil.subs, Fi.Fil.kids]
  have c1 := dnType t
  have c2 := fpSubs s
  by_cases hout : left - 1 < 0 ∨ 16 ≤ deep
  · rw [if_pos hout]
    clear hk
    refine CallsC.of Tryz.call131 Tryz.func131 rfl Tryz.ntmps131 rfl fun w0 G0 S0 hs ho => ?_
    exact run trivial
  · rw [if_neg hout]
    have c3 := anyFil (f := 145) (Cs := [TPc [okI .i64 (deep : Int)], TPc [Is (pAt g 0)]]) ks (deep + 1) g (left - 1) (by omega) (by omega) (fun k hk' n n0 n1 => fpMay1 k (hk k hk') deep g n (by omega) n0 n1)
    clear hk
    have su := Sure.mk' [86, 87, 88, 89, 90]
    rw [Fi.mayH_3 (by simp)]
    have st := Stop.mk' 18
    refine CallsC.of Tryz.call131 Tryz.func131 rfl Tryz.ntmps131 rfl fun w0 G0 S0 hs ho => ?_
    refine run ?_
    intros
    refine HTs.mk ?_
    clear st
    cases hB : (Dn.typB t && decide ((v.length : Int) ≤ 256) && decide ((s.length : Int) = 0) && decide ((ks.length : Int) = 0)) with
    | true =>
      rw [if_pos rfl]
      refine run ?_
      intros
      rw [hB]; simp
    | false =>
      rw [if_neg (by simp)]
      refine run ?_
      intros
      rw [hB]; simp
set_option maxHeartbeats 8000000 in
theorem fpMay_6 (t v : List UInt8) (s : List (List UInt8)) (ks : List Fi.Fil) (hk : ∀ f ∈ ks, MayC f) (hw : Fi.wt (.mk 6 t v s ks) ≤ 1000000) : MayC (.mk 6 t v s ks) := by
  intro deep g left hd h0 h1
  have hw' := hw
  rw [Fi.wt] at hw'
  have w1 := wtL_len ks
  have w2 := subsW_len s
  rw [Fi.mayF_mk, Fi.cF_open]
  dsimp only [Fi.Fil.kind, Fi.Fil.typ, Fi.Fil.val, Fi.Fil.subs, Fi.Fil.kids]
  have c1 := dnType t
  have c2 := fpSubs s
  by_cases hout : left - 1 < 0 ∨ 16 ≤ deep
  · rw [if_pos hout]
    clear hk
    refine CallsC.of Tryz.call131 Tryz.func131 rfl Tryz.ntmps131 rfl fun w0 G0 S0 hs ho => ?_
    exact run trivial
  · rw [if_neg hout]
    have c3 := anyFil (f := 145) (Cs := [TPc [okI .i64 (deep : Int)], TPc [Is (pAt g 0)]]) ks (deep + 1) g (left - 1) (by omega) (by omega) (fun k hk' n n0 n1 => fpMay1 k (hk k hk') deep g n (by omega) n0 n1)
    clear hk
    have su := Sure.mk' [86, 87, 88, 89, 90]
    rw [Fi.mayH_3 (by simp)]
    have st := Stop.mk' 18
    refine CallsC.of Tryz.call131 Tryz.func131 rfl Tryz.ntmps131 rfl fun w0 G0 S0 hs ho => ?_
    refine run ?_
    intros
    refine HTs.mk ?_
    clear st
    cases hB : (Dn.typB t && decide ((v.length : Int) ≤ 256) && decide ((s.length : Int) = 0) && decide ((ks.length : Int) = 0)) with
    | true =>
      rw [if_pos rfl]
      refine run ?_
      intros
      rw [hB]; simp
    | false =>
      rw [if_neg (by simp)]
      refine run ?_
      intros
      rw [hB]; simp
end Go.Proofs.YtgaahjmgneallaaGreat
set_option linter.unusedVariables false
set_option maxRecDepth 8000
set_option linter.unusedVariables false
namespace Go.Proofs.YtgaahjmgneallaaGreat
open Go.Vk
attribute [local irreducible] HT HX RegS RegA RegM OpP OpC AltT
attribute [local irreducible] Dn.typB Fi.mayF Fi.mayL Fi.mayIx Fi.badIx Fi.subsB
set_option maxHeartbeats 8000000 in
theorem fpMay_4 (t v : List UInt8) (s : List (List UInt8)) (ks : List Fi.Fil) (hk : ∀ f ∈ ks, MayC f) (hw : Fi.wt (.mk 4 t v s ks) ≤ 1000000) : MayC (.mk 4 t v s ks) := by
  intro deep g left hd h0 h1
  have hw' := hw
  rw [Fi.wt] at hw'
  have w1 := wtL_len ks
  have w2 := subsW_len s
  rw [Fi.mayF_mk, Fi.cF_open]
  dsimp only [Fi.Fil.kind, Fi.Fil.typ, Fi.Fil.val, Fi.Fil.subs, Fi.Fil.kids]
  have c1 := dnType t
  have c2 := fpSubs s
  by_cases hout : left - 1 < 0 ∨ 16 ≤ deep
  · rw [if_pos hout]
    clear hk
    refine CallsC.of Tryz.call131 Tryz.func131 rfl Tryz.ntmps131 rfl fun w0 G0 S0 hs ho => ?_
    exact run trivial
  · rw [if_neg hout]
    have c3 := anyFil (f := 145) (Cs := [TPc [okI .i64 (deep : Int)], TPc [Is (pAt g 0)]]) ks (deep + 1) g (left - 1) (by omega) (by omega) (fun k hk' n n0 n1 => fpMay1 k (hk k hk') deep g n (by omega) n0 n1)
    clear hk
    have su := Sure.mk' [86, 87, 88, 89, 90]
    rw [Fi.mayH_4]
    have st := Stop.mk' 18
    refine CallsC.of Tryz.call131 Tryz.func131 rfl Tryz.ntmps131 rfl fun w0 G0 S0 hs ho => ?_
    refine run ?_
    intros
    refine HTs.mk ?_
    clear st
    cases hB : (Dn.typB t && decide (v = []) && Fi.subsB s && decide ((ks.length : Int) = 0)) with
    | true =>
      rw [if_pos rfl]
      refine run ?_
      intros
      rw [hB]; simp
    | false =>
      rw [if_neg (by simp)]
      refine run ?_
      intros
      rw [hB]; simp
set_option maxHeartbeats 8000000 in
theorem fpMay_7 (t v : List UInt8) (s : List (List UInt8)) (ks : List Fi.Fil) (hk : ∀ f ∈ ks, MayC f) (hw : Fi.wt (.mk 7 t v s ks) ≤ 1000000) : MayC (.mk 7 t v s ks) := by
  intro deep g left hd h0 h1
  have hw' := hw
  rw [Fi.wt] at hw'
  have w1 := wtL_len ks
  have w2 := subsW_len s
  rw [Fi.mayF_mk, Fi.cF_open]
  dsimp only [Fi.Fil.kind, Fi.Fil.typ, Fi.Fil.val, Fi.Fil.subs, Fi.Fil.kids]
  have c1 := dnType t
  have c2 := fpSubs s
  by_cases hout : left - 1 < 0 ∨ 16 ≤ deep
  · rw [if_pos hout]
    clear hk
    refine CallsC.of Tryz.call131 Tryz.func131 rfl Tryz.ntmps131 rfl fun w0 G0 S0 hs ho => ?_
    exact run trivial
  · rw [if_neg hout]
    have c3 := anyFil (f := 145) (Cs := [TPc [okI .i64 (deep : Int)], TPc [Is (pAt g 0)]]) ks (deep + 1) g (left - 1) (by omega) (by omega) (fun k hk' n n0 n1 => fpMay1 k (hk k hk') deep g n (by omega) n0 n1)
    clear hk
    have su := Sure.mk' [86, 87, 88, 89, 90]
    rw [Fi.mayH_7]
    have st := Stop.mk' 18
    refine CallsC.of Tryz.call131 Tryz.func131 rfl Tryz.ntmps131 rfl fun w0 G0 S0 hs ho => ?_
    refine run ?_
    intros
    refine HTs.mk ?_
    clear st
    cases hB : (Dn.typB t && decide (v = []) && decide ((s.length : Int) = 0) && decide ((ks.length : Int) = 0)) with
    | true =>
      rw [if_pos rfl]
      refine run ?_
      intros
      rw [hB]; simp
    | false =>
      rw [if_neg (by simp)]
      refine run ?_
      intros
      rw [hB]; simp
set_option maxHeartbeats 8000000 in
theorem fpMay_x (k : Int) (hkk : ¬ (k = 0 ∨ k = 1 ∨ k = 2) ∧ ¬ (k = 3 ∨ k = 5 ∨ k = 6) ∧ k ≠ 4 ∧ k ≠ 7) (t v : List UInt8) (s : List (List UInt8)) (ks : List Fi.Fil) (hk : ∀ f ∈ ks, MayC f) (hw : Fi.wt (.mk k t v s ks) ≤ 1000000) : MayC (.mk k t v s ks) := by
  intro deep g left hd h0 h1
  have hw' := hw
  rw [Fi.wt] at hw'
  have w1 := wtL_len ks
  have w2 := subsW_len s
  rw [Fi.mayF_mk, Fi.cF_open]
  dsimp only [Fi.Fil.kind, Fi.Fil.typ, Fi.Fil.val, Fi.Fil.subs, Fi.Fil.kids]
  have c1 := dnType t
  have c2 := fpSubs s
  by_cases hout : left - 1 < 0 ∨ 16 ≤ deep
  · rw [if_pos hout]
    clear hk
    refine CallsC.of Tryz.call131 Tryz.func131 rfl Tryz.ntmps131 rfl fun w0 G0 S0 hs ho => ?_
    exact run trivial
  · rw [if_neg hout]
    have c3 := anyFil (f := 145) (Cs := [TPc [okI .i64 (deep : Int)], TPc [Is (pAt g 0)]]) ks (deep + 1) g (left - 1) (by omega) (by omega) (fun k hk' n n0 n1 => fpMay1 k (hk k hk') deep g n (by omega) n0 n1)
    clear hk
    have su := Sure.mk' [86, 87, 88, 89, 90]
    rw [Fi.mayH_x hkk, if_neg (by simp)]
    clear c3 su
    refine CallsC.of Tryz.call131 Tryz.func131 rfl Tryz.ntmps131 rfl fun w0 G0 S0 hs ho => ?_
    exact run trivial
end Go.Proofs.YtgaahjmgneallaaGreat
set_option linter.unusedVariables false
set_option maxRecDepth 8000
set_option linter.unusedVariables false
namespace Go.Proofs.YtgaahjmgneallaaGreat
open Go.Vk
attribute [local irreducible] HT HX RegS RegA RegM OpP OpC AltT
attribute [local irreducible] Dn.typB Fi.mayF Fi.mayL Fi.mayIx Fi.badIx Fi.subsB
theorem fpMayS (k : Int) (t v : List UInt8) (s : List (List UInt8)) (ks : List Fi.Fil) (hk : ∀ f ∈ ks, MayC f) (hw : Fi.wt (.mk k t v s ks) ≤ 1000000) : MayC (.mk k t v s ks) := by
  by_cases k0 : k = 0
  · subst k0; exact fpMay_0 t v s ks hk hw
  by_cases k1 : k = 1
  · subst k1; exact fpMay_1 t v s ks hk hw
  by_cases k2 : k = 2
  · subst k2; exact fpMay_2 t v s ks hk hw
  by_cases k3 : k = 3
  · subst k3; exact fpMay_3 t v s ks hk hw
  by_cases k5 : k = 5
  · subst k5; exact fpMay_5 t v s ks hk hw
  by_cases k6 : k = 6
  · subst k6; exact fpMay_6 t v s ks hk hw
  by_cases k4 : k = 4
  · subst k4; exact fpMay_4 t v s ks hk hw
  by_cases k7 : k = 7
  · subst k7; exact fpMay_7 t v s ks hk hw
  · exact fpMay_x k (by omega) t v s ks hk hw
theorem fpMay : ∀ (N : Nat) (f : Fi.Fil), Fi.nodes f ≤ N → Fi.wt f ≤ 1000000 → MayC f
  | 0, f, h, _ => by have := Fi.nodes_pos f; omega
  | N + 1, .mk k t v s ks, h, hw => fpMayS k t v s ks (fun f hf => fpMay N f (by
      have := Fi.kid_nodes hf
      rw [Fi.nodes] at h; omega) (by
      have := wt_kid hf
      rw [Fi.wt] at hw; omega)) hw
theorem fpIs (f : Fi.Fil) (hw : Fi.wt f ≤ 1000000) : CFn Tryz.prog 99 [TAgg (Fi.cF f)] (Is (.bool (Fi.isF f))) := by
  have c1 := fun g => fpMay (Fi.nodes f) f (Nat.le_refl _) hw 0 g 64 (by decide) (by decide) (by decide)
  rw [Fi.may_isF] at c1
  refine CallsC.of Tryz.call99 Tryz.func99 rfl Tryz.ntmps99 rfl fun w0 G0 S0 hs ho => ?_
  exact run trivial
end Go.Proofs.YtgaahjmgneallaaGreat
set_option linter.unusedVariables false
namespace Go.Ms
open Go.Vk
open Go.Fi (Fil)
open Go.En (Attr)
structure Req where
  num : Int
  kind : Int
  dn : List UInt8
  pass : List UInt8
  scope : Int
  limit : Int
  fil : Fil
  want : List (List UInt8)
  mods : List Mod
  attrs : List Attr
  rdn : List UInt8
  keep : Bool
  above : Bool
  up : List UInt8
  avaT : List UInt8
  avaV : List UInt8
  which : Int
deriving DecidableEq
abbrev cReq (r : Req) : List Ty := [okI .i64 r.num, okI .i64 r.kind, Is (str r.dn), Is (str r.pass), okI .i64 r.scope, okI .i64 r.limit, okI .i64 r.fil.kind, Is (str r.fil.typ), Is (str r.fil.val), TSl 1 Fi.cS r.fil.subs, TSl 5 Fi.cF r.fil.kids, TSl 1 En.cS r.want, TSl 3 cMod r.mods, TSl 2 En.cAttr r.attrs, Is (str r.rdn), Is (.bool r.keep), Is (.bool r.above), Is (str r.up), Is (str r.avaT), Is (str r.avaV), okI .i64 r.which]
def zR : Req := ⟨0, 0, [], [], 0, 0, Fi.zeroF, [], [], [], [], false, false, [], [], [], 0⟩
instance : Inhabited Req := ⟨zR⟩
/-- What bounds a request. -/
structure Okr (r : Req) : Prop where
  num : okK r.num
  kind : okK r.kind
  scope : okK r.scope
  limit : okK r.limit
  which : okK r.which
  dn : r.dn.length ≤ 2000000
  pass : r.pass.length ≤ 2000000
  rdn : r.rdn.length ≤ 2000000
  up : r.up.length ≤ 2000000
  avaT : r.avaT.length ≤ 2000000
  avaV : r.avaV.length ≤ 2000000
  fil : wF r.fil ≤ 90000000
  want : sm wV r.want ≤ 90000000
  mods : sm wM r.mods ≤ 90000000
  attrs : sm wA r.attrs ≤ 90000000
  kinds : ∀ m ∈ r.mods, okK m.kind
  filw : Fi.wt r.fil ≤ 1000000
theorem subsW_sm : ∀ l : List (List UInt8), Fi.subsW l ≤ sm wV l
  | [] => by simp [Fi.subsW, sm]
  | s :: r => by
    have := subsW_sm r
    have h : wV s = s.length + 10 := rfl
    have e : sm wV (s :: r) = wV s + sm wV r := by unfold sm; rw [List.map_cons, List.sum_cons]
    rw [Fi.subsW, e]; omega
mutual
theorem wt_wF : ∀ f : Fil, Fi.wt f ≤ wF f
  | .mk k t v s ks => by
    have h1 := wtL_wF ks
    have h2 := subsW_sm s
    rw [Fi.wt]; unfold wF wVs; omega
theorem wtL_wF : ∀ l : List Fil, Fi.wtL l ≤ wFs l
  | [] => by rw [Fi.wtL]; omega
  | f :: r => by
    have h1 := wt_wF f
    have h2 := wtL_wF r
    rw [Fi.wtL]; unfold wFs; omega
end
theorem sm_nil {α : Type} (f : α → Nat) : sm f [] = 0 := rfl
theorem okK0 : okK 0 := by unfold okK; omega
theorem zR_ok : Okr zR := ⟨okK0, okK0, okK0, okK0, okK0, by decide, by decide, by decide, by decide, by decide, by decide, by decide, by decide, by decide, by decide, (by intro m h; cases h), by decide⟩
/-- A request without what its kind names. -/
def unnR (r : Req) : Req :=
  let k := r.kind
  ⟨0, 0, if k = 2 ∨ k = 16 then r.dn else [], if k = 0 then [] else r.pass, if k = 3 then 0 else r.scope, if k = 3 then 0 else r.limit, if k = 3 then Fi.zeroF else r.fil, if k = 3 then [] else r.want, if k = 6 then [] else r.mods, if k = 8 then [] else r.attrs, if k = 12 then [] else r.rdn, if k = 12 then false else r.keep, if k = 12 then false else r.above, if k = 12 then [] else r.up, if k = 14 then [] else r.avaT, if k = 14 then [] else r.avaV, if k = 16 then 0 else r.which⟩
theorem okr_unn {r : Req} (h : Okr r) : Okr (unnR r) := by
  obtain ⟨h1, h2, h3, h4, h5, h6, h7, h8, h9, h10, h11, h12, h13, h14, h15, h16, h17⟩ := h
  constructor <;> (unfold unnR; dsimp only; try split) <;> first | assumption | exact okK0 | decide | exact Nat.zero_le _ | (intro m hm; cases hm)
/-! ### may be -/
def isKindB (k : Int) : Bool := isIntZ k [0, 2, 3, 6, 8, 10, 12, 14, 16]
def numB (n m : Int) : Bool := decide (m ≤ n) && decide (n ≤ 2147483647)
def fewB {α : Type} (l : List α) : Bool := decide ((l.length : Int) ≤ 64)
def modOk (m : Mod) : Bool := decide (0 ≤ m.kind) && decide (m.kind ≤ 2) && fewB m.vals
def attrOk (a : Attr) : Bool := fewB a.vals
def soundB (r : Req) : Bool := isKindB r.kind && numB r.num 1 && decide (unnR r = zR) && (decide (0 ≤ r.scope) && decide (r.scope ≤ 2) && numB r.limit 0 && numB r.which 0) && (!decide (r.kind = 3) || Fi.isF r.fil) && (r.above || decide (r.up = [])) && (fewB r.want && fewB r.mods && fewB r.attrs) && (r.mods.all modOk && r.attrs.all attrOk)
end Go.Ms
set_option maxRecDepth 8000
set_option linter.unusedVariables false
namespace Go.Proofs.YtgaahjmgneallaaGreat
open Go.Vk
attribute [local irreducible] HT HX RegS RegA RegM OpP OpC AltT
attribute [local irreducible] Ber.tagB Ber.lenB Ber.intB Ms.textB Ms.wV Ms.wF Ms.filB Ms.piecesB Ms.tagF Fi.isF Fi.wt
set_option maxHeartbeats 4000000 in
theorem msUnnamed (r : Ms.Req) : CFn Tryz.prog 98 [TAgg (Ms.cReq r)] (TAgg (Ms.cReq (Ms.unnR r))) := by
  obtain ⟨num, kind, dn, pass, scope, limit, fil, want, mods, attrs, rdn, keep, above, up, avaT, avaV, which⟩ := r
  unfold Ms.unnR
  dsimp only
  by_cases h0 : kind = 0
  · subst h0
    simp only [reduceIte, Int.reduceEq, or_self, or_false, false_or]
    dsimp only [Ms.cReq]
    refine CallsC.of Tryz.call98 Tryz.func98 rfl Tryz.ntmps98 rfl fun w0 G0 S0 hs ho => ?_
    exact run trivial
  by_cases h2 : kind = 2
  · subst h2
    simp only [reduceIte, Int.reduceEq, or_self, or_false, false_or]
    dsimp only [Ms.cReq]
    refine CallsC.of Tryz.call98 Tryz.func98 rfl Tryz.ntmps98 rfl fun w0 G0 S0 hs ho => ?_
    exact run trivial
  by_cases h3 : kind = 3
  · subst h3
    simp only [reduceIte, Int.reduceEq, or_self, or_false, false_or]
    dsimp only [Ms.cReq]
    refine CallsC.of Tryz.call98 Tryz.func98 rfl Tryz.ntmps98 rfl fun w0 G0 S0 hs ho => ?_
    refine run ?_
    exact ⟨fun _ _ _ _ _ => rfl, fun _ _ _ _ _ => rfl, fun _ _ _ _ _ => rfl, fun _ _ _ _ _ => rfl, fun _ _ _ _ _ => rfl⟩
  by_cases h6 : kind = 6
  · subst h6
    simp only [reduceIte, Int.reduceEq, or_self, or_false, false_or]
    dsimp only [Ms.cReq]
    refine CallsC.of Tryz.call98 Tryz.func98 rfl Tryz.ntmps98 rfl fun w0 G0 S0 hs ho => ?_
    exact run trivial
  by_cases h8 : kind = 8
  · subst h8
    simp only [reduceIte, Int.reduceEq, or_self, or_false, false_or]
    dsimp only [Ms.cReq]
    refine CallsC.of Tryz.call98 Tryz.func98 rfl Tryz.ntmps98 rfl fun w0 G0 S0 hs ho => ?_
    exact run trivial
  by_cases h12 : kind = 12
  · subst h12
    simp only [reduceIte, Int.reduceEq, or_self, or_false, false_or]
    dsimp only [Ms.cReq]
    refine CallsC.of Tryz.call98 Tryz.func98 rfl Tryz.ntmps98 rfl fun w0 G0 S0 hs ho => ?_
    exact run trivial
  by_cases h14 : kind = 14
  · subst h14
    simp only [reduceIte, Int.reduceEq, or_self, or_false, false_or]
    dsimp only [Ms.cReq]
    refine CallsC.of Tryz.call98 Tryz.func98 rfl Tryz.ntmps98 rfl fun w0 G0 S0 hs ho => ?_
    exact run trivial
  by_cases h16 : kind = 16
  · subst h16
    simp only [reduceIte, Int.reduceEq, or_self, or_false, false_or]
    dsimp only [Ms.cReq]
    refine CallsC.of Tryz.call98 Tryz.func98 rfl Tryz.ntmps98 rfl fun w0 G0 S0 hs ho => ?_
    exact run trivial
  simp only [h0, h2, h3, h6, h8, h12, h14, h16, reduceIte, or_self]
  dsimp only [Ms.cReq]
  refine CallsC.of Tryz.call98 Tryz.func98 rfl Tryz.ntmps98 rfl fun w0 G0 S0 hs ho => ?_
  exact run trivial
end Go.Proofs.YtgaahjmgneallaaGreat
set_option linter.unusedVariables false
namespace Go.Ms
open Go.Vk
theorem zFil : TAgg (Fi.cF Fi.zeroF) = TAgg [okI .i64 0, Is (str []), Is (str []), TSl 1 Fi.cS [], TSl 5 Fi.cF []] := Fi.cF_open Fi.zeroF
end Go.Ms
set_option maxRecDepth 8000
set_option linter.unusedVariables false
namespace Go.Proofs.YtgaahjmgneallaaGreat
open Go.Vk
attribute [local irreducible] HT HX RegS RegA RegM OpP OpC AltT
attribute [local irreducible] Ber.tagB Ber.lenB Ber.intB
set_option maxHeartbeats 4000000 in
theorem msSame0 : CFn Tryz.prog 97 [TAgg (Ms.zReq 0 0), TAgg (Ms.zReq 0 0)] (Is (.bool true)) := by
  have c1 := fpSame 1 Fi.zeroF (by decide) (by decide) Fi.zeroF
  rw [decide_eq_true rfl, Ms.zFil] at c1
  have c2 := txtEq16 [] [] (by decide)
  rw [decide_eq_true rfl] at c2
  have c3 := modEq (f := 130) (Cs := []) [] [] (by decide) (fun a h => by cases h)
  rw [decide_eq_true rfl] at c3
  have c4 := attrEq (f := 36) (Cs := []) [] [] (by decide) (fun a h => by cases h)
  rw [decide_eq_true rfl] at c4
  refine CallsC.of Tryz.call97 Tryz.func97 rfl Tryz.ntmps97 rfl fun w0 G0 S0 hs ho => ?_
  refine run ?_
  exact ⟨fun h => by simp at h, fun _ h => by simp [allB] at h, fun _ _ => rfl⟩
set_option maxHeartbeats 4000000 in
theorem msUnnamed0 : CFn Tryz.prog 98 [TAgg (Ms.zReq 1 2)] (TAgg (Ms.zReq 0 0)) := by
  refine CallsC.of Tryz.call98 Tryz.func98 rfl Tryz.ntmps98 rfl fun w0 G0 S0 hs ho => ?_
  exact run trivial
set_option maxHeartbeats 4000000 in
theorem msSound0 : CFn Tryz.prog 63 [TAgg (Ms.zReq 1 2)] (Is (.bool true)) := by
  have c1 := msSame0
  have c2 := msUnnamed0
  have c3 : CFn Tryz.prog 96 [okI .i64 2] (Is (.bool true)) := msIsKind 2
  have c4 : CFn Tryz.prog 68 [okI .i64 1, okI .i64 1] (Is (.bool true)) := msIsNum 1 1
  have c5 : CFn Tryz.prog 68 [okI .i64 0, okI .i64 0] (Is (.bool true)) := msIsNum 0 0
  have c6 : CFn Tryz.prog 100 [TSl 1 En.cS []] (Is (.bool true)) := msFewS []
  have c7 : CFn Tryz.prog 101 [TSl 3 Ms.cMod []] (Is (.bool true)) := msFewM []
  have c8 : CFn Tryz.prog 102 [TSl 2 En.cAttr []] (Is (.bool true)) := msFewA []
  have c9 : CFn Tryz.prog 103 [TSl 3 Ms.cMod [], TFn 104 []] (Is (.bool false)) := anyMod [] (fun _ => true) (by decide) (fun a h => by cases h)
  have c10 : CFn Tryz.prog 105 [TSl 2 En.cAttr [], TFn 106 []] (Is (.bool false)) := anyAttr [] (fun _ => true) (by decide) (fun a h => by cases h)
  have su := Sure.mk' [9, 10, 11, 12, 15, 16, 17, 18, 19, 26, 27, 28, 31, 32, 33, 34, 37, 38, 39, 40, 47, 48, 49, 50, 56, 57, 58, 66, 67, 68, 69, 72, 73, 74, 75, 82, 83, 84, 85]
  refine CallsC.of Tryz.call63 Tryz.func63 rfl Tryz.ntmps63 rfl fun w0 G0 S0 hs ho => ?_
  refine run ?_
  exact ⟨fun _ _ _ h => by simp at h, fun _ _ _ _ _ => rfl⟩
set_option maxHeartbeats 4000000 in
theorem msOper0 : CFn Tryz.prog 64 [TAgg (Ms.zReq 1 2)] (TBytes (Ber.tagB 66 [])) := by
  have c1 := msText [] (by decide)
  have c2 := (tagO 66 [] (by decide) (by decide)).justFn
  refine CallsC.of Tryz.call64 Tryz.func64 rfl Tryz.ntmps64 rfl fun w0 G0 S0 hs ho => ?_
  exact run trivial
set_option maxHeartbeats 4000000 in
theorem msEncode0 : CFn Tryz.prog 21 [TAgg (Ms.zReq 1 2)] (TTup [TBytes [48, 5, 2, 1, 1, 66, 0], okI .i64 0]) := by
  have c1 := msSound0
  have c2 := msOper0
  have c3 := int 1 (by decide)
  have c4 := (tagO 2 [Ber.intB 1] (by decide +kernel) (by decide)).justFn
  have c5 := (tagO 48 [Ber.tagB 2 [Ber.intB 1], Ber.tagB 66 []] (by decide +kernel) (by decide)).justFn
  have e : Ber.tagB 48 [Ber.tagB 2 [Ber.intB 1], Ber.tagB 66 []] = [48, 5, 2, 1, 1, 66, 0] := by decide +kernel
  rw [e] at c5
  have c6 : CFn Tryz.prog 23 [okI .u8 48, TSlX 1 (fun ts : List Ty => ts) [[TBytes (Ber.tagB 2 [Ber.intB 1])], [TBytes (Ber.tagB 66 [])]]] (TBytes [48, 5, 2, 1, 1, 66, 0]) := CFn.sub c5 (by exact byQ)
  have c7 : CFn Tryz.prog 23 [okI .u8 2, TSlX 1 (fun ts : List Ty => ts) [[TBytes (Ber.intB 1)]]] (TBytes (Ber.tagB 2 [Ber.intB 1])) := CFn.sub c4 (by exact byQ)
  clear c4 c5
  refine CallsC.of Tryz.call21 Tryz.func21 rfl Tryz.ntmps21 rfl fun w0 G0 S0 hs ho => ?_
  refine run ?_
  exact ⟨fun _ h => absurd h (by decide), fun _ h => absurd h (by decide)⟩
theorem lwKnown25 : CFn Tryz.prog 15 [] (Is (.bool true)) := by
  have c1 := msEncode0
  refine CallsC.of Tryz.call15 Tryz.func15 rfl Tryz.ntmps15 rfl fun w0 G0 S0 hs ho => ?_
  exact run trivial
theorem opnBytes : Opn Tryz.prog 26 (cL 1 cB) (fun l => l.length ≤ 140737488351232) := by
  have h := Opn.slice (Opn.byte Tryz.underlying5 (by kernel_rfl)) Tryz.underlying26 (by kernel_rfl) (by kernel_rfl)
  rw [show Tryz.prog.cellsOf 5 = 1 by kernel_rfl] at h
  have hb : Tryz.prog.bytesOf 5 = 1 := by kernel_rfl
  exact h.map id (fun l => by rw [show Tryz.prog.cellsOf 26 = 1 by kernel_rfl]; rfl) (fun _ => rfl) (fun l hl => by have := reach_le hl.1; rw [hb] at this; show l.length ≤ _; omega)
end Go.Proofs.YtgaahjmgneallaaGreat
set_option linter.unusedVariables false
namespace Go.Ms
open Go.Vk
theorem mod_eq (a b : Mod) : decide (a = b) = (decide (a.kind = b.kind) && decide (a.typ = b.typ) && decide (a.vals = b.vals)) := by
  obtain ⟨a1, a2, a3⟩ := a
  obtain ⟨b1, b2, b3⟩ := b
  grind
theorem attr_eq (a b : En.Attr) : decide (a = b) = (decide (a.typ = b.typ) && decide (a.vals = b.vals)) := by
  obtain ⟨a1, a2⟩ := a
  obtain ⟨b1, b2⟩ := b
  grind
theorem req_eq (a b : Req) : decide (a = b) = (decide (a.num = b.num) && decide (a.kind = b.kind) && decide (a.dn = b.dn) && decide (a.pass = b.pass) && decide (a.scope = b.scope) && decide (a.limit = b.limit) && decide (a.fil = b.fil) && decide (a.want = b.want) && decide (a.rdn = b.rdn) && decide (a.keep = b.keep) && decide (a.above = b.above) && decide (a.up = b.up) && decide (a.avaT = b.avaT) && decide (a.avaV = b.avaV) && decide (a.which = b.which) && decide (a.attrs = b.attrs) && decide (a.mods = b.mods)) := by
  cases a; cases b
  rw [Bool.eq_iff_iff]
  simp only [Bool.and_eq_true, decide_eq_true_eq, Req.mk.injEq]
  constructor <;> (intro h; simp [h])
theorem wM_vals (m : Mod) : m.vals.length ≤ wM m := by
  have := sm_len wV_pos m.vals
  unfold wM wAt wVs; omega
theorem wA_vals (m : En.Attr) : m.vals.length ≤ wA m := by
  have := sm_len wV_pos m.vals
  unfold wA wAt wVs; omega
end Go.Ms
set_option maxRecDepth 8000
set_option linter.unusedVariables false
namespace Go.Proofs.YtgaahjmgneallaaGreat
open Go.Vk
attribute [local irreducible] HT HX RegS RegA RegM OpP OpC AltT
attribute [local irreducible] Ber.tagB Ber.lenB Ber.intB Ms.textB Ms.wV Ms.wF Ms.filB Ms.piecesB Ms.tagF Fi.isF Fi.wt Ms.wM Ms.wA
theorem msSameMod (a b : Ms.Mod) (h : a.vals.length ≤ 1000000000) : CFn Tryz.prog 130 [TAgg (Ms.cMod a), TAgg (Ms.cMod b)] (Is (.bool (decide (a = b)))) := by
  have c1 := txtEq16 a.vals b.vals (by omega)
  rw [Ms.mod_eq]
  refine CallsC.of Tryz.call130 Tryz.func130 rfl Tryz.ntmps130 rfl fun w0 G0 S0 hs ho => ?_
  exact run trivial
theorem msSameAttr (a b : En.Attr) (h : a.vals.length ≤ 1000000000) : CFn Tryz.prog 36 [TAgg (En.cAttr a), TAgg (En.cAttr b)] (Is (.bool (decide (a = b)))) := by
  have c1 := txtEq16 a.vals b.vals (by omega)
  rw [Ms.attr_eq]
  refine CallsC.of Tryz.call36 Tryz.func36 rfl Tryz.ntmps36 rfl fun w0 G0 S0 hs ho => ?_
  exact run trivial
set_option maxHeartbeats 8000000 in
theorem msSame (a b : Ms.Req) (ha : Ms.Okr a) : CFn Tryz.prog 97 [TAgg (Ms.cReq a), TAgg (Ms.cReq b)] (Is (.bool (decide (a = b)))) := by
  have h1 := ha.filw
  have h2 := ha.want
  have h3 := ha.mods
  have h4 := ha.attrs
  have c1 := fpSame (Fi.nodes a.fil) a.fil (Nat.le_refl _) h1 b.fil
  rw [Fi.cF_open a.fil, Fi.cF_open b.fil] at c1
  have c2 := txtEq16 a.want b.want (by have := Ms.sm_len Ms.wV_pos a.want; omega)
  have c3 := modEq (f := 130) (Cs := []) a.mods b.mods (by have := Ms.sm_len Ms.wM_pos a.mods; omega) (fun x hx y => msSameMod x y (by have := Ms.wM_vals x; have := Ms.sm_mem (f := Ms.wM) hx; omega))
  have c4 := attrEq (f := 36) (Cs := []) a.attrs b.attrs (by have := Ms.sm_len Ms.wA_pos a.attrs; omega) (fun x hx y => msSameAttr x y (by have := Ms.wA_vals x; have := Ms.sm_mem (f := Ms.wA) hx; omega))
  rw [Ms.req_eq]
  clear h1 h2 h3 h4 ha
  refine CallsC.of Tryz.call97 Tryz.func97 rfl Tryz.ntmps97 rfl fun w0 G0 S0 hs ho => ?_
  refine run ?_
  refine ⟨fun h => ?_, fun _ h => ?_, fun h1 h2 => ?_⟩
  · symm
    rw [← Bool.not_eq_true]
    simp only [Bool.and_eq_true, decide_eq_true_eq]
    intro e
    simp [e] at h
  · symm
    rw [← Bool.not_eq_true]
    simp only [Bool.and_eq_true, decide_eq_true_eq]
    intro e
    simp [e, allB] at h
  · simp only [allB, ne_eq, Decidable.not_not, bne_eq_false_iff_eq, Bool.and_eq_true, Bool.and_true, decide_eq_true_eq] at h1 h2
    simp only [h1, h2, decide_true, Bool.true_and]
theorem msSound1 (m : Ms.Mod) : CFn Tryz.prog 104 [TAgg (Ms.cMod m)] (Is (.bool (!Ms.modOk m))) := by
  have c1 := msFewS m.vals
  unfold Ms.modOk Ms.fewB
  refine CallsC.of Tryz.call104 Tryz.func104 rfl Tryz.ntmps104 rfl fun w0 G0 S0 hs ho => ?_
  refine run ?_
  grind
theorem msSound2 (a : En.Attr) : CFn Tryz.prog 106 [TAgg (En.cAttr a)] (Is (.bool (!Ms.attrOk a))) := by
  have c1 := msFewS a.vals
  unfold Ms.attrOk Ms.fewB
  refine CallsC.of Tryz.call106 Tryz.func106 rfl Tryz.ntmps106 rfl fun w0 G0 S0 hs ho => ?_
  exact run trivial
set_option maxHeartbeats 8000000 in
theorem msSound (r : Ms.Req) (ha : Ms.Okr r) : CFn Tryz.prog 63 [TAgg (Ms.cReq r)] (Is (.bool (Ms.soundB r))) := by
  have h1 := ha.filw
  have h3 := ha.mods
  have h4 := ha.attrs
  have c1 := msUnnamed r
  have c2 : CFn Tryz.prog 97 [TAgg (Ms.cReq (Ms.unnR r)), TAgg (Ms.zReq 0 0)] (Is (.bool (decide (Ms.unnR r = Ms.zR)))) := by
    have h := msSame (Ms.unnR r) Ms.zR (Ms.okr_unn ha)
    have e : Ms.cReq Ms.zR = [okI .i64 0, okI .i64 0, Is (str []), Is (str []), okI .i64 0, okI .i64 0, okI .i64 0, Is (str []), Is (str []), TSl 1 Fi.cS [], TSl 5 Fi.cF [], TSl 1 En.cS [], TSl 3 Ms.cMod [], TSl 2 En.cAttr [], Is (str []), Is (.bool false), Is (.bool false), Is (str []), Is (str []), Is (str []), okI .i64 0] := rfl
    rw [e] at h
    exact CFn.sub h ⟨Sub.refl _, Sub.agg ⟨Sub.refl _, Sub.refl _, Sub.refl _, Sub.refl _, Sub.refl _, Sub.refl _, Sub.refl _, Sub.refl _, Sub.refl _, Sub.nil _ _, Sub.nil _ _, Sub.nil _ _, Sub.nil _ _, Sub.nil _ _, Sub.refl _, Sub.refl _, Sub.refl _, Sub.refl _, Sub.refl _, Sub.refl _, Sub.refl _, trivial⟩, trivial⟩
  have c3 : CFn Tryz.prog 96 [okI .i64 r.kind] (Is (.bool (Ms.isKindB r.kind))) := msIsKind r.kind
  have c4 : ∀ n m : Int, CFn Tryz.prog 68 [okI .i64 n, okI .i64 m] (Is (.bool (Ms.numB n m))) := msIsNum
  have c5 := fpIs r.fil h1
  rw [Fi.cF_open r.fil] at c5
  have c6 : CFn Tryz.prog 100 [TSl 1 En.cS r.want] (Is (.bool (Ms.fewB r.want))) := msFewS r.want
  have c7 : CFn Tryz.prog 101 [TSl 3 Ms.cMod r.mods] (Is (.bool (Ms.fewB r.mods))) := msFewM r.mods
  have c8 : CFn Tryz.prog 102 [TSl 2 En.cAttr r.attrs] (Is (.bool (Ms.fewB r.attrs))) := msFewA r.attrs
  have c9 := anyMod (f := 104) (Cs := []) r.mods (fun m => !Ms.modOk m) (by have := Ms.sm_len Ms.wM_pos r.mods; omega) (fun x hx => msSound1 x)
  have c10 := anyAttr (f := 106) (Cs := []) r.attrs (fun m => !Ms.attrOk m) (by have := Ms.sm_len Ms.wA_pos r.attrs; omega) (fun x hx => msSound2 x)
  clear h1 h3 h4 ha
  unfold Ms.soundB
  refine CallsC.of Tryz.call63 Tryz.func63 rfl Tryz.ntmps63 rfl fun w0 G0 S0 hs ho => ?_
  refine run ?_
  have e1 : (!r.mods.any fun m => !Ms.modOk m) = r.mods.all Ms.modOk := List.all_eq_not_any_not.symm
  have e2 : (!r.attrs.any fun m => !Ms.attrOk m) = r.attrs.all Ms.attrOk := List.all_eq_not_any_not.symm
  rw [e1, e2]
  and_intros
  all_goals intros
  all_goals grind
end Go.Proofs.YtgaahjmgneallaaGreat
