/-
  The laws of chapter 18: AclSays, AclRoot, AclFirst, AclGrants.
-/
import Derived.Test.YtjbcdakjbpepdaaA3
import Derived.Test.YtjbcdakjbpepdaaDT
set_option linter.unusedVariables false
namespace Go.Ac
open Go.Vk
open Go.Dn (Ava cAva wgt sameE underE isE)
def kR : List Ava := [⟨[99, 110], [114, 111, 111, 116]⟩]
theorem k1 : mayB [] kR kR [] [99, 110] 1 = true := by decide +kernel
theorem k2 : mayB [] kR [] [] [99, 110] 1 = false := by decide +kernel
theorem kW : wgt kR = 7 := by decide +kernel
theorem wgt_nil : wgt [] = 0 := rfl
theorem wgts2 (a b : List Ava) : wgts [a, b] = wgt a + wgt b := by simp [wgts]
theorem wgts3 (a b c : List Ava) : wgts [a, b, c] = wgt a + wgt b + wgt c := by simp [wgts]; omega
theorem big_nil : bigN [] := ⟨by simp, by simp⟩
theorem same_refl (l : List Ava) : sameE l l = true := decide_eq_true rfl
theorem may_root (l : List Rule) (root target : List Ava) (typ : List UInt8) (right : Int) : mayB l root root target typ right = (decide (0 < (root.length : Int)) || mayB l [] [] target typ right) := by
  by_cases h : root.length = 0
  · have : root = [] := List.eq_nil_of_length_eq_zero h
    subst this
    simp
  · have h1 : mayB l root root target typ right = true := by unfold mayB; rw [if_pos ⟨h, same_refl _⟩]
    rw [h1, decide_eq_true (by omega)]; rfl
theorem may_none (who target : List Ava) (typ : List UInt8) (right : Int) : mayB [] [] who target typ right = false := by
  unfold mayB
  rw [if_neg (by simp)]; rfl
theorem may_nil (l : List Rule) (who target : List Ava) (typ : List UInt8) (right : Int) : mayB l [] who target typ right = mayR l who target typ right := by
  unfold mayB
  rw [if_neg (by simp)]
theorem may_app_yes {l : List Rule} (m : List Rule) {who target : List Ava} {typ : List UInt8} {right : Int} (h : l.any (fun r => fitsB r who target typ right) = true) : mayR (l ++ m) who target typ right = mayR l who target typ right := by
  induction l with
  | nil => simp at h
  | cons r l ih =>
    simp only [List.cons_append, mayR]
    by_cases h1 : fitsB r who target typ right = true
    · rw [if_pos h1, if_pos h1]
    · rw [if_neg h1, if_neg h1]
      refine ih ?_
      rw [List.any_cons] at h
      simpa [h1] using h
theorem may_app_no {l : List Rule} (m : List Rule) {who target : List Ava} {typ : List UInt8} {right : Int} (h : l.any (fun r => fitsB r who target typ right) = false) : mayR (l ++ m) who target typ right = mayR m who target typ right ∧ mayR l who target typ right = false := by
  induction l with
  | nil => exact ⟨rfl, rfl⟩
  | cons r l ih =>
    rw [List.any_cons, Bool.or_eq_false_iff] at h
    simp only [List.cons_append, mayR]
    rw [if_neg (by rw [h.1]; simp), if_neg (by rw [h.1]; simp)]
    exact ih h.2
def allR (g : Bool) : Rule := ⟨0, [], [], true, [], 15, g⟩
def noneR : Rule := ⟨3, [], [], false, [], 16, false⟩
theorem isE_nil : isE [] = true := rfl
theorem under_nil (l : List Ava) : underE l [] = true := by
  unfold underE
  simp [same_refl]
theorem all_fits (g : Bool) (who target : List Ava) (typ : List UInt8) {right : Int} (h : rgtB right = true) : fitsB (allR g) who target typ right = true := by
  have hb : bitsOf .and .i64 15 right ≠ 0 := by
    simp only [rgtB, Bool.or_eq_true, decide_eq_true_eq] at h
    rcases h with ((h | h) | h) | h <;> subst h <;> decide
  have h1 : isR (allR g) = true := rfl
  have h2 : forB (allR g) who target = true := rfl
  unfold fitsB
  rw [h1, h, h2, show (allR g).sub = true from rfl, show (allR g).base = [] from rfl, show (allR g).rights = 15 from rfl, show (allR g).typ = [] from rfl, under_nil, decide_eq_false hb]
  simp
theorem none_fits (who target : List Ava) (typ : List UInt8) (right : Int) : fitsB noneR who target typ right = false := by
  have h1 : isR noneR = false := by decide +kernel
  unfold fitsB; rw [h1]; rfl
theorem any_snoc_all {l : List Rule} {g : Bool} {who target : List Ava} {typ : List UInt8} {right : Int} (h : rgtB right = true) : (l ++ [allR g]).any (fun r => fitsB r who target typ right) = true := by
  rw [List.any_append, List.any_cons, all_fits g who target typ h]; simp
theorem first_law (l m : List Rule) (g : Bool) (who target : List Ava) (typ : List UInt8) {right : Int} (h : rgtB right = true) :
    mayB (l ++ [allR g] ++ m) [] who target typ right = mayB (l ++ [allR g]) [] who target typ right ∧ mayB (noneR :: (l ++ [allR g])) [] who target typ right = mayB (l ++ [allR g]) [] who target typ right ∧ (l.length = 0 → mayB (l ++ [allR g]) [] who target typ right = g) := by
  simp only [may_nil]
  refine ⟨may_app_yes m (any_snoc_all h), ?_, fun h0 => ?_⟩
  · conv => lhs; unfold mayR
    rw [if_neg (by rw [none_fits]; simp)]
  · rw [List.eq_nil_of_length_eq_zero h0, List.nil_append]
    unfold mayR
    rw [if_pos (all_fits g who target typ h)]; rfl
theorem grant_law (l : List Rule) (r : Rule) (who target : List Ava) (typ : List UInt8) (right : Int) :
    (mayB l [] who target typ right = true → mayB (l ++ [{ r with grant := true }]) [] who target typ right = true) ∧ mayB (l ++ [{ r with grant := false }]) [] who target typ right = mayB l [] who target typ right := by
  simp only [may_nil]
  cases h : l.any (fun r => fitsB r who target typ right) with
  | true => exact ⟨fun k => by rw [may_app_yes _ h]; exact k, may_app_yes _ h⟩
  | false =>
    have h1 := may_app_no [{ r with grant := true }] h
    have h2 := may_app_no [{ r with grant := false }] h
    refine ⟨fun k => (by rw [h1.2] at k; cases k), ?_⟩
    rw [h2.1, h2.2]
    simp only [mayR]
    split <;> rfl
end Go.Ac
set_option linter.unusedVariables false
namespace Go.Proofs.Ytjbcdakjbpepdaa
open Go.Vk
attribute [local irreducible] HT HX RegS RegA RegM OpP OpC
attribute [local irreducible] Dn.typB Dn.isE Dn.sameE Dn.underE Dn.foldE Dn.wgt Ac.isR Ac.fitsB Ac.mayR Ac.mayB Ac.wgts Ac.names Ac.greatB Ac.chkB
theorem lw18Known : CFn Try.prog 10 [] (Is (.bool true)) := by
  have c1 := acMay [] Ac.kR Ac.kR [] [99, 110] 1 (InK.i64 (by omega)) (by simp) (by simp) (by rw [Ac.kW]; omega) (by rw [Ac.kW]; omega) (by rw [Ac.wgt_nil]; omega) (by simp)
  have c2 := acMay [] Ac.kR [] [] [99, 110] 1 (InK.i64 (by omega)) (by simp) (by simp) (by rw [Ac.kW]; omega) (by rw [Ac.wgt_nil]; omega) (by rw [Ac.wgt_nil]; omega) (by simp)
  rw [Ac.k1] at c1
  rw [Ac.k2] at c2
  unfold Ac.kR at c1 c2
  have d1 : CFn Try.prog 9 [Is (.slice none 0 0), TSlX 2 (fun ts : List Ty => ts) [[Is (str [99, 110]), Is (str [114, 111, 111, 116])]], TSlX 2 (fun ts : List Ty => ts) [[Is (str [99, 110]), Is (str [114, 111, 111, 116])]], Is (.slice none 0 0), Is (str [99, 110]), okI .i64 1] (Is (.bool true)) := CFn.sub c1 (by (repeat (first | exact TsSub.nil | apply TsSub.cons (by first | with_reducible exact Sub.refl _ | exact Sub.slxT rfl | exact Sub.slT rfl | exact Sub.slx rfl | exact Sub.nil _ _ | exact Sub.refl _) | fail)); done)
  have d2 : CFn Try.prog 9 [Is (.slice none 0 0), TSlX 2 (fun ts : List Ty => ts) [[Is (str [99, 110]), Is (str [114, 111, 111, 116])]], Is (.slice none 0 0), Is (.slice none 0 0), Is (str [99, 110]), okI .i64 1] (Is (.bool false)) := CFn.sub c2 (by (repeat (first | exact TsSub.nil | apply TsSub.cons (by first | with_reducible exact Sub.refl _ | exact Sub.slxT rfl | exact Sub.slT rfl | exact Sub.slx rfl | exact Sub.nil _ _ | exact Sub.refl _) | fail)); done)
  clear c1 c2
  refine CallsC.of Try.call10 Try.func10 rfl Try.ntmps10 rfl fun w0 G0 S0 hs ho => ?_
  refine run ?_
  and_intros <;> first | rfl | decide
set_option maxHeartbeats 2000000 in
theorem aclSays (l : List Ac.Rule) (root who target : List Dn.Ava) (typ : List UInt8) (right : Int) (hri : InK .i64 right) (hl : l.length ≤ 140737488351232) (ha : ∀ r ∈ l, Ac.bigR r) (h0 : Ac.bigN root) (h1 : Ac.bigN who) (h2 : Ac.bigN target) : CFn Try.prog 6 [TSl 7 Ac.cRule l, TSl 2 Dn.cAva root, TSl 2 Dn.cAva who, TSl 2 Dn.cAva target, Is (str typ), okI .i64 right] (Is (.bool true)) := by
  have c0 := lw18Known
  have c1 := lw18Great l hl ha
  have c2 := lw18Heavy [root, who, target] (by simp) (by simp; exact ⟨h0, h1, h2⟩)
  have hw := Ac.wgts3 root who target
  by_cases hbig : Ac.greatB l = true ∨ 1500 < Ac.wgts [root, who, target] ∨ 100 < typ.length
  · refine CallsC.of Try.call6 Try.func6 rfl Try.ntmps6 rfl fun w0 G0 S0 hs ho => ?_
    refine run ?_
    intro h
    exfalso
    grind
  · have hg : Ac.greatB l = false := by simpa using fun h => hbig (.inl h)
    have hw2 : Ac.wgts [root, who, target] ≤ 1500 := by omega
    have ht : typ.length ≤ 100 := by omega
    obtain ⟨hl2, hok⟩ := Ac.great_ok hg
    have c3 := acMay l root who target typ right hri (by omega) hok (by omega) (by omega) (by omega) ht
    have c4 := rf18May l root who target typ right (by omega) hok (by omega) (by omega) (by omega) ht
    have c5 := acCheck l (by omega) hok
    have c6 := rf18Check l (by omega) hok
    refine CallsC.of Try.call6 Try.func6 rfl Try.ntmps6 rfl fun w0 G0 S0 hs ho => ?_
    refine run ?_
    intro _
    refine HT.loopX (σ := Nat) [0, 1, 2, 3, 4, 5] (fun i => [(13, okI .i64 (i : Int))]) (fun _ => []) (fun i => i ≤ l.length) (fun i => l.length - i) 0 (Nat.zero_le _) (run trivial) (run trivial) ?_
    intro i hi
    by_cases hlt : i < l.length
    · have c7 := acIs _ (hok _ (Ac.getD_mem hlt))
      have c8 := rf18Is _ (hok _ (Ac.getD_mem hlt))
      refine run ?_
      and_intros
      all_goals intros
      · exfalso; grind
      · exact HX.roundX (i + 1) ⟨by omega, by omega⟩ rfl (run trivial) (run trivial)
    · refine run ?_
      intro _
      simp
set_option maxHeartbeats 2000000 in
theorem aclRoot (l : List Ac.Rule) (root target : List Dn.Ava) (typ : List UInt8) (right : Int) (hri : InK .i64 right) (hl : l.length ≤ 140737488351232) (ha : ∀ r ∈ l, Ac.bigR r) (h0 : Ac.bigN root) (h2 : Ac.bigN target) : CFn Try.prog 4 [TSl 7 Ac.cRule l, TSl 2 Dn.cAva root, TSl 2 Dn.cAva target, Is (str typ), okI .i64 right] (Is (.bool true)) := by
  have c0 := lw18Known
  have c1 := lw18Great l hl ha
  have c2 := lw18Heavy [root, target] (by simp) (by simp; exact ⟨h0, h2⟩)
  have hw := Ac.wgts2 root target
  by_cases hbig : Ac.greatB l = true ∨ 1500 < Ac.wgts [root, target] ∨ 100 < typ.length
  · refine CallsC.of Try.call4 Try.func4 rfl Try.ntmps4 rfl fun w0 G0 S0 hs ho => ?_
    refine run ?_
    intro h
    exfalso
    grind
  · have hg : Ac.greatB l = false := by simpa using fun h => hbig (.inl h)
    have hw2 : Ac.wgts [root, target] ≤ 1500 := by omega
    have ht : typ.length ≤ 100 := by omega
    have hwn := Ac.wgt_nil
    obtain ⟨hl2, hok⟩ := Ac.great_ok hg
    have c3 := acMay l root root target typ right hri (by omega) hok (by omega) (by omega) (by omega) ht
    have c4 := rf18May l [] [] target typ right (by omega) hok (by omega) (by omega) (by omega) ht
    have c5 : CFn Try.prog 9 [Is (.slice none 0 0), Is (.slice none 0 0), TSl 2 Dn.cAva root, TSl 2 Dn.cAva target, Is (str typ), okI .i64 right] (Is (.bool (Ac.mayB [] [] root target typ right))) := CFn.sub (acMay [] [] root target typ right hri (by simp) (by simp) (by omega) (by omega) (by omega) ht) (by (repeat (first | exact TsSub.nil | apply TsSub.cons (by first | with_reducible exact Sub.refl _ | exact Sub.slxT rfl | exact Sub.slT rfl | exact Sub.slx rfl | exact Sub.nil _ _ | exact Sub.refl _) | fail)); done)
    refine CallsC.of Try.call4 Try.func4 rfl Try.ntmps4 rfl fun w0 G0 S0 hs ho => ?_
    refine run ?_
    intro _
    rw [Ac.may_root, Ac.may_none]
    simp
set_option maxHeartbeats 4000000 in
theorem aclFirst (l m : List Ac.Rule) (who target : List Dn.Ava) (typ : List UInt8) (right : Int) (hri : InK .i64 right) (hl : l.length ≤ 140737488351232) (ha : ∀ r ∈ l, Ac.bigR r) (hm : m.length ≤ 140737488351232) (hb : ∀ r ∈ m, Ac.bigR r) (h1 : Ac.bigN who) (h2 : Ac.bigN target) : CFn Try.prog 3 [TSl 7 Ac.cRule l, TSl 7 Ac.cRule m, TSl 2 Dn.cAva who, TSl 2 Dn.cAva target, Is (str typ), okI .i64 right] (Is (.bool true)) := by
  have c0 := lw18Known
  have c1 := lw18Great l hl ha
  have c1' := lw18Great m hm hb
  have c2 := lw18Heavy [who, target] (by simp) (by simp; exact ⟨h1, h2⟩)
  have hw := Ac.wgts2 who target
  by_cases hbig : Ac.greatB l = true ∨ Ac.greatB m = true ∨ 1500 < Ac.wgts [who, target] ∨ 100 < typ.length ∨ Ac.rgtB right = false
  · have hr : Ac.rgtB right = false ↔ right ≠ 1 ∧ right ≠ 2 ∧ right ≠ 4 ∧ right ≠ 8 := by simp [Ac.rgtB]; grind
    refine CallsC.of Try.call3 Try.func3 rfl Try.ntmps3 rfl fun w0 G0 S0 hs ho => ?_
    refine run ?_
    and_intros
    all_goals intros
    all_goals (exfalso; grind)
  · have hg : Ac.greatB l = false := by simpa using fun h => hbig (.inl h)
    have hg' : Ac.greatB m = false := by simpa using fun h => hbig (.inr (.inl h))
    have hw2 : Ac.wgts [who, target] ≤ 1500 := by omega
    have ht : typ.length ≤ 100 := by omega
    have hrg : Ac.rgtB right = true := by simpa using fun h => hbig (.inr (.inr (.inr (.inr h))))
    have hwn := Ac.wgt_nil
    obtain ⟨hl2, hok⟩ := Ac.great_ok hg
    obtain ⟨hm2, hom⟩ := Ac.great_ok hg'
    have mu := Mut.mk' [57, 69, 81]
    have pl := Plan.mk' 4 [(1,3,[]),(3,2,[0]),(4,3,[]),(0,0,[0]),(2,0,[0]),(5,0,[0]),(6,3,[])]
    have hok1 : ∀ r ∈ l ++ [Ac.allR (decide ((m.length : Int) % 2 = 0))], Ac.okR r := by
      intro r hr
      rcases List.mem_append.1 hr with hr | hr
      · exact hok r hr
      · rw [List.mem_singleton.1 hr]; exact ⟨by show Dn.wgt [] ≤ _; omega, by show Dn.wgt [] ≤ _; omega, by show ([] : List UInt8).length ≤ 100; simp⟩
    have hok2 : ∀ r ∈ l ++ [Ac.allR (decide ((m.length : Int) % 2 = 0))] ++ m, Ac.okR r := by
      intro r hr
      rcases List.mem_append.1 hr with hr | hr
      · exact hok1 r hr
      · exact hom r hr
    have hok3 : ∀ r ∈ Ac.noneR :: (l ++ [Ac.allR (decide ((m.length : Int) % 2 = 0))]), Ac.okR r := by
      intro r hr
      rcases List.mem_cons.1 hr with hr | hr
      · rw [hr]; exact ⟨by show Dn.wgt [] ≤ _; omega, by show Dn.wgt [] ≤ _; omega, by show ([] : List UInt8).length ≤ 100; simp⟩
      · exact hok1 r hr
    have e3 := acMay _ [] who target typ right hri (by simp; omega) hok1 (by omega) (by omega) (by omega) ht
    have e4 := acMay _ [] who target typ right hri (by simp; omega) hok2 (by omega) (by omega) (by omega) ht
    have e5 := acMay _ [] who target typ right hri (by simp; omega) hok3 (by omega) (by omega) (by omega) ht
    have qa : TssSub [[okI .i64 0, Is (.slice none 0 0), Is (.slice none 0 0), Is (.bool true), Is (str []), okI .i64 15, Is (.bool (decide ((m.length : Int) % 2 = 0)))]] [Ac.cRule (Ac.allR (decide ((m.length : Int) % 2 = 0)))] := TssSub.one (by (repeat (first | exact TsSub.nil | apply TsSub.cons (by first | with_reducible exact Sub.refl _ | exact Sub.slxT rfl | exact Sub.slT rfl | exact Sub.slx rfl | exact Sub.nil _ _ | exact Sub.refl _) | fail)); done)
    have qn : TssSub [[okI .i64 3, Is (.slice none 0 0), Is (.slice none 0 0), Is (.bool false), Is (str []), okI .i64 16, Is (.bool false)]] [Ac.cRule Ac.noneR] := TssSub.one (by (repeat (first | exact TsSub.nil | apply TsSub.cons (by first | with_reducible exact Sub.refl _ | exact Sub.slxT rfl | exact Sub.slT rfl | exact Sub.slx rfl | exact Sub.nil _ _ | exact Sub.refl _) | fail)); done)
    have q3 := (TssSub.refl (List.map (fun ts : List Ty => ts) ([] ++ l.map Ac.cRule))).append qa
    have q4 := ((TssSub.refl []).append q3).append (TssSub.refl (m.map Ac.cRule))
    have q5 := qn.append q3
    have d3 : CFn Try.prog 9 [TSl 7 (fun ts : List Ty => ts) (List.map (fun ts : List Ty => ts) ([] ++ l.map Ac.cRule) ++ [[okI .i64 0, Is (.slice none 0 0), Is (.slice none 0 0), Is (.bool true), Is (str []), okI .i64 15, Is (.bool (decide ((m.length : Int) % 2 = 0)))]]), Is (.slice none 0 0), TSl 2 Dn.cAva who, TSl 2 Dn.cAva target, Is (str typ), okI .i64 right] _ := CFn.sub e3 (TsSub.cons ((Sub.slE q3).trans (Sub.slT (by simp))) (by (repeat (first | exact TsSub.nil | apply TsSub.cons (by first | with_reducible exact Sub.refl _ | exact Sub.slxT rfl | exact Sub.slT rfl | exact Sub.slx rfl | exact Sub.nil _ _ | exact Sub.refl _) | fail)); done))
    have d4 : CFn Try.prog 9 [TSl 7 (fun ts : List Ty => ts) ([] ++ (List.map (fun ts : List Ty => ts) ([] ++ l.map Ac.cRule) ++ [[okI .i64 0, Is (.slice none 0 0), Is (.slice none 0 0), Is (.bool true), Is (str []), okI .i64 15, Is (.bool (decide ((m.length : Int) % 2 = 0)))]]) ++ m.map Ac.cRule), Is (.slice none 0 0), TSl 2 Dn.cAva who, TSl 2 Dn.cAva target, Is (str typ), okI .i64 right] _ := CFn.sub e4 (TsSub.cons ((Sub.slE q4).trans (Sub.slT (by simp))) (by (repeat (first | exact TsSub.nil | apply TsSub.cons (by first | with_reducible exact Sub.refl _ | exact Sub.slxT rfl | exact Sub.slT rfl | exact Sub.slx rfl | exact Sub.nil _ _ | exact Sub.refl _) | fail)); done))
    have d5 : CFn Try.prog 9 [TSl 7 (fun ts : List Ty => ts) ([[okI .i64 3, Is (.slice none 0 0), Is (.slice none 0 0), Is (.bool false), Is (str []), okI .i64 16, Is (.bool false)]] ++ (List.map (fun ts : List Ty => ts) ([] ++ l.map Ac.cRule) ++ [[okI .i64 0, Is (.slice none 0 0), Is (.slice none 0 0), Is (.bool true), Is (str []), okI .i64 15, Is (.bool (decide ((m.length : Int) % 2 = 0)))]])), Is (.slice none 0 0), TSl 2 Dn.cAva who, TSl 2 Dn.cAva target, Is (str typ), okI .i64 right] _ := CFn.sub e5 (TsSub.cons ((Sub.slE q5).trans (Sub.slT (by simp))) (by (repeat (first | exact TsSub.nil | apply TsSub.cons (by first | with_reducible exact Sub.refl _ | exact Sub.slxT rfl | exact Sub.slT rfl | exact Sub.slx rfl | exact Sub.nil _ _ | exact Sub.refl _) | fail)); done))
    clear e3 e4 e5
    refine CallsC.of Try.call3 Try.func3 rfl Try.ntmps3 rfl fun w0 G0 S0 hs ho => ?_
    refine run ?_
    intros
    obtain ⟨f1, f2, f3⟩ := Ac.first_law l m (decide ((m.length : Int) % 2 = 0)) who target typ hrg
    rw [f1, f2]
    by_cases h0 : l.length = 0
    · rw [f3 h0]; simp
    · rw [decide_eq_true (p := 0 < (l.length : Int)) (by omega)]; simp
set_option maxHeartbeats 4000000 in
theorem aclGrants (l : List Ac.Rule) (r : Ac.Rule) (who target : List Dn.Ava) (typ : List UInt8) (right : Int) (hri : InK .i64 right) (hl : l.length ≤ 140737488351232) (ha : ∀ r ∈ l, Ac.bigR r) (hr : Ac.bigR r) (h1 : Ac.bigN who) (h2 : Ac.bigN target) : CFn Try.prog 5 [TSl 7 Ac.cRule l, TAgg (Ac.cRule r), TSl 2 Dn.cAva who, TSl 2 Dn.cAva target, Is (str typ), okI .i64 right] (Is (.bool true)) := by
  have c0 := lw18Known
  have c1 := lw18Great l hl ha
  have c1' := lw18Great [r] (by simp) (by simpa using hr)
  have c2 := lw18Heavy [who, target] (by simp) (by simp; exact ⟨h1, h2⟩)
  have hw := Ac.wgts2 who target
  have c1' : CFn Try.prog 7 [TSlX 7 (fun ts : List Ty => ts) [Ac.cRule r]] (Is (.bool (Ac.greatB [r]))) := CFn.sub c1' (by (repeat (first | exact TsSub.nil | apply TsSub.cons (by first | with_reducible exact Sub.refl _ | exact Sub.slxT rfl | exact Sub.slT rfl | exact Sub.slx rfl | exact Sub.nil _ _ | exact Sub.refl _) | fail)); done)
  have mu := Mut.mk' [7, 41, 53]
  by_cases hbig : Ac.greatB l = true ∨ Ac.greatB [r] = true ∨ 1500 < Ac.wgts [who, target] ∨ 100 < typ.length
  · refine CallsC.of Try.call5 Try.func5 rfl Try.ntmps5 rfl fun w0 G0 S0 hs ho => ?_
    refine run ?_
    and_intros
    all_goals intros
    all_goals (exfalso; grind)
  · have hg : Ac.greatB l = false := by simpa using fun h => hbig (.inl h)
    have hg' : Ac.greatB [r] = false := by simpa using fun h => hbig (.inr (.inl h))
    have hw2 : Ac.wgts [who, target] ≤ 1500 := by omega
    have ht : typ.length ≤ 100 := by omega
    have hwn := Ac.wgt_nil
    obtain ⟨hl2, hok⟩ := Ac.great_ok hg
    obtain ⟨_, hor⟩ := Ac.great_ok hg'
    have pl5 := Plan.mk' 5 [(1,3,[]),(6,3,[]),(7,3,[]),(8,3,[]),(9,3,[]),(3,2,[0]),(4,3,[]),(0,0,[0]),(2,0,[0]),(5,0,[0]),(10,3,[]),(11,3,[])]
    have pl7 := Plan.mk' 7 [(1,3,[]),(6,3,[]),(7,3,[]),(8,3,[]),(9,3,[]),(3,2,[0]),(4,3,[]),(0,0,[0]),(2,0,[0]),(5,0,[0]),(10,3,[]),(11,3,[])]
    have hok1 : ∀ g, ∀ x ∈ l ++ [{ r with grant := g }], Ac.okR x := by
      intro g x hx
      rcases List.mem_append.1 hx with hx | hx
      · exact hok x hx
      · rw [List.mem_singleton.1 hx]; exact hor r (by simp)
    have e3 := acMay l [] who target typ right hri (by omega) hok (by omega) (by omega) (by omega) ht
    have e4 := acMay _ [] who target typ right hri (by simp; omega) (hok1 true) (by omega) (by omega) (by omega) ht
    have e5 := acMay _ [] who target typ right hri (by simp; omega) (hok1 false) (by omega) (by omega) (by omega) ht
    have d3 : CFn Try.prog 9 [TSl 7 Ac.cRule l, Is (.slice none 0 0), TSl 2 Dn.cAva who, TSl 2 Dn.cAva target, Is (str typ), okI .i64 right] _ := CFn.sub e3 (by (repeat (first | exact TsSub.nil | apply TsSub.cons (by first | with_reducible exact Sub.refl _ | exact Sub.slxT rfl | exact Sub.slT rfl | exact Sub.slx rfl | exact Sub.nil _ _ | exact Sub.refl _) | fail)); done)
    have d4 : CFn Try.prog 9 [TSl 7 (fun ts : List Ty => ts) (List.map (fun ts : List Ty => ts) ([] ++ l.map Ac.cRule) ++ [Ac.cRule { r with grant := true }]), Is (.slice none 0 0), TSl 2 Dn.cAva who, TSl 2 Dn.cAva target, Is (str typ), okI .i64 right] _ := CFn.sub e4 (TsSub.cons (Sub.slT (by simp)) (by (repeat (first | exact TsSub.nil | apply TsSub.cons (by first | with_reducible exact Sub.refl _ | exact Sub.slxT rfl | exact Sub.slT rfl | exact Sub.slx rfl | exact Sub.nil _ _ | exact Sub.refl _) | fail)); done))
    have d5 : CFn Try.prog 9 [TSl 7 (fun ts : List Ty => ts) (List.map (fun ts : List Ty => ts) ([] ++ l.map Ac.cRule) ++ [Ac.cRule { r with grant := false }]), Is (.slice none 0 0), TSl 2 Dn.cAva who, TSl 2 Dn.cAva target, Is (str typ), okI .i64 right] _ := CFn.sub e5 (TsSub.cons (Sub.slT (by simp)) (by (repeat (first | exact TsSub.nil | apply TsSub.cons (by first | with_reducible exact Sub.refl _ | exact Sub.slxT rfl | exact Sub.slT rfl | exact Sub.slx rfl | exact Sub.nil _ _ | exact Sub.refl _) | fail)); done))
    clear e3 e4 e5
    refine CallsC.of Try.call5 Try.func5 rfl Try.ntmps5 rfl fun w0 G0 S0 hs ho => ?_
    refine run ?_
    intros
    obtain ⟨f1, f2⟩ := Ac.grant_law l r who target typ right
    rw [f2]
    cases h : Ac.mayB l [] who target typ right with
    | true => rw [f1 h]; rfl
    | false => simp
/-! ### arguments -/
theorem opnRule : Opn Try.prog 27 Ac.cRule Ac.bigR := by
  refine (Opn.struct Try.underlying27 (by kernel_rfl) (OpnF.cons rfl (Opn.int Try.underlying3 (by kernel_rfl)) (OpnF.cons rfl opnAvas (OpnF.cons rfl opnAvas (OpnF.cons rfl (Opn.bool Try.underlying4 (by kernel_rfl)) (OpnF.cons rfl (Opn.str Try.underlying9 (by kernel_rfl)) (OpnF.cons rfl (Opn.int Try.underlying3 (by kernel_rfl)) (OpnF.cons rfl (Opn.bool Try.underlying4 (by kernel_rfl)) (OpnF.nil _))))))))).map
    (fun p => (⟨p.1, p.2.1, p.2.2.1, p.2.2.2.1, p.2.2.2.2.1, p.2.2.2.2.2.1, p.2.2.2.2.2.2.1⟩ : Ac.Rule)) (fun a => by kernel_rfl) (fun p => rfl) (fun p h => ?_)
  exact ⟨h.2.1, h.2.2.1, h.2.2.2.2.1⟩
theorem opnRules : Opn Try.prog 22 (cL 7 Ac.cRule) (fun l => l.length ≤ 140737488351232 ∧ ∀ r ∈ l, Ac.bigR r) := by
  have h := Opn.slice opnRule Try.underlying22 (by kernel_rfl) (by kernel_rfl)
  rw [show Try.prog.cellsOf 27 = 7 by kernel_rfl] at h
  have hb : Try.prog.bytesOf 27 = 96 := by kernel_rfl
  exact h.map id (fun l => by rw [show Try.prog.cellsOf 22 = 1 by kernel_rfl]; rfl) (fun _ => rfl) (fun l hl => ⟨by have := reach_le hl.1; rw [hb] at this; show l.length ≤ _; omega, hl.2⟩)
theorem wf_ink {n : Int} (h : (Lit.int .i64 n).wf = true) : InK .i64 n := InK.i64 (wf_i64 h)
end Go.Proofs.Ytjbcdakjbpepdaa
