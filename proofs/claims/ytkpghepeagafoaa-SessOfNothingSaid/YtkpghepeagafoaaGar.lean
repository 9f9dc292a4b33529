/-
  The contracts of msg's small functions, and of all that the encoding of an unbind reaches.
  The contracts of what the encoding of an unbind reaches, at that request; and of MsgFrames.
  The contracts of slices.Grow and slices.Concat, of bytes.
  The laws BerCuts, BerBack, BerLong, for all arguments.
  The document's answers: length, Tag, Next; what each computes, for every input.
  The law BerTags, for all arguments.
  The law BerAlls, for all arguments; All and the document's All.
  The contracts of msg's items: apart, is, take, num; and of Decode, at an unbind.
  The contracts of Decode, and of a connection, at an unbind in two pieces.
  The contracts of a connection: New, Open, Close, Waiting, Who, Bind, and Take at an unbind in two pieces.
-/
import Derived.Test.YtkpghepeagafoaaGah
import Derived.Test.YtkpghepeagafoaaGap
import Derived.Test.YtkpghepeagafoaaGaq
import Derived.Test.YtkpghepeagafoaaGan
import Derived.Test.YtkpghepeagafoaaGag
import Derived.Test.YtkpghepeagafoaaGao
set_option linter.unusedSimpArgs false
set_option linter.unusedVariables false
set_option linter.unusedVariables false
namespace Go.Ms
open Go.Vk
abbrev cZ (n : Int) : List Ty := [okI .i64 n]
structure Mod where
  kind : Int
  typ : List UInt8
  vals : List (List UInt8)
deriving DecidableEq
instance : Inhabited Mod := ⟨⟨0, [], []⟩⟩
def cMod (m : Mod) : List Ty := [okI .i64 m.kind, Is (str m.typ), TSl 1 En.cS m.vals]
def isIntZ (n : Int) (l : List Int) : Bool := l.any (fun k => decide (n = k))
/-- The cells of a request that names nothing but its number and kind. -/
abbrev zReq (n k : Int) : List Ty := [okI .i64 n, okI .i64 k, Is (str []), Is (str []), okI .i64 0, okI .i64 0, okI .i64 0, Is (str []), Is (str []), Is (.slice none 0 0), Is (.slice none 0 0), Is (.slice none 0 0), Is (.slice none 0 0), Is (.slice none 0 0), Is (str []), Is (.bool false), Is (.bool false), Is (str []), Is (str []), Is (str []), okI .i64 0]
end Go.Ms
set_option maxRecDepth 8000
set_option linter.unusedVariables false
namespace Go.Proofs.Ytkpghepeagafoaa
open Go.Vk
attribute [local irreducible] HT HX RegS RegA RegM OpP OpC AltT
attribute [local irreducible] Ber.tagB Ber.lenB Ber.intB
theorem ixInt (l : List Int) (n : Int) (hl : l.length ≤ 1152921504606846976) : CFn Try.prog 80 [TSl 1 Ms.cZ l, okI .i64 n] (okI .i64 (En.ixOf (fun k => decide (n = k)) l)) := by
  refine CallsC.of Try.call80 Try.func80 rfl Try.ntmps80 rfl fun w0 G0 S0 hs ho => ?_
  refine run ?_
  refine HT.loopX (σ := Nat) [0, 1, 7] (fun i => [(8, okI .i64 (i : Int))]) (fun i => []) (fun i => i ≤ l.length ∧ (l.take i).any (fun k => decide (n = k)) = false) (fun i => l.length - i) 0 ⟨by omega, by simp⟩ (run trivial) (run trivial) ?_
  rintro i ⟨hi, hp⟩
  refine run ?_
  refine ⟨fun h1 h2 => ?_, fun h1 h2 => ?_, fun h1 => ?_⟩
  · exact (En.ixOf_at (by omega) hp (decide_eq_true h2)).symm
  · exact HX.roundX (i + 1) ⟨⟨by omega, En.any_snoc (by omega) hp (decide_eq_false h2)⟩, by omega⟩ rfl (run trivial) (run trivial)
  · exact (En.ixOf_none (by rwa [List.take_of_length_le (by omega)] at hp)).symm
theorem anyInt (l : List Int) (n : Int) (hl : l.length ≤ 1152921504606846976) : CFn Try.prog 68 [TSl 1 Ms.cZ l, okI .i64 n] (Is (.bool (Ms.isIntZ n l))) := by
  have c1 := ixInt l n hl
  refine CallsC.of Try.call68 Try.func68 rfl Try.ntmps68 rfl fun w0 G0 S0 hs ho => ?_
  refine run ?_
  exact En.ixOf_nonneg
theorem msIsKind (n : Int) : CFn Try.prog 50 [okI .i64 n] (Is (.bool (Ms.isIntZ n [0, 2, 3, 6, 8, 10, 12, 14, 16]))) := by
  have c1 := anyInt [0, 2, 3, 6, 8, 10, 12, 14, 16] n (by decide)
  refine CallsC.of Try.call50 Try.func50 rfl Try.ntmps50 rfl fun w0 G0 S0 hs ho => ?_
  exact run trivial
theorem msIsNum (n m : Int) : CFn Try.prog 40 [okI .i64 n, okI .i64 m] (Is (.bool (decide (m ≤ n) && decide (n ≤ 2147483647)))) := by
  refine CallsC.of Try.call40 Try.func40 rfl Try.ntmps40 rfl fun w0 G0 S0 hs ho => ?_
  exact run trivial
theorem msFewS (l : List (List UInt8)) : CFn Try.prog 54 [TSl 1 En.cS l] (Is (.bool (decide ((l.length : Int) ≤ 64)))) := by
  refine CallsC.of Try.call54 Try.func54 rfl Try.ntmps54 rfl fun w0 G0 S0 hs ho => ?_
  exact run trivial
theorem msFewM (l : List Ms.Mod) : CFn Try.prog 55 [TSl 3 Ms.cMod l] (Is (.bool (decide ((l.length : Int) ≤ 64)))) := by
  refine CallsC.of Try.call55 Try.func55 rfl Try.ntmps55 rfl fun w0 G0 S0 hs ho => ?_
  exact run trivial
theorem msFewA (l : List En.Attr) : CFn Try.prog 56 [TSl 2 En.cAttr l] (Is (.bool (decide ((l.length : Int) ≤ 64)))) := by
  refine CallsC.of Try.call56 Try.func56 rfl Try.ntmps56 rfl fun w0 G0 S0 hs ho => ?_
  exact run trivial
theorem msText (s : List UInt8) (hs : s.length ≤ 1000000) : CFn Try.prog 62 [Is (str s)] (TBytes (Ber.tagB 4 [s])) := by
  have c1 := (tagO 4 [s] (by rw [Ber.tot_one]; omega) (by simp)).justFn
  refine CallsC.of Try.call62 Try.func62 rfl Try.ntmps62 rfl fun w0 G0 S0 hs ho => ?_
  exact run trivial
theorem modEq {f : FuncId} {Cs : List Ty} (l m : List Ms.Mod) (hl : l.length ≤ 1152921504606846976) (cf : ∀ a ∈ l, ∀ b, CFn Try.prog f ([TAgg (Ms.cMod a), TAgg (Ms.cMod b)] ++ Cs) (Is (.bool (decide (a = b))))) : CFn Try.prog 73 [TSl 3 Ms.cMod l, TSl 3 Ms.cMod m, TFn f Cs] (Is (.bool (decide (l = m)))) := by
  refine CallsC.of Try.call73 Try.func73 rfl Try.ntmps73 rfl fun w0 G0 S0 hs ho => ?_
  refine run ?_
  refine ⟨?_, ?_⟩
  · intro h
    exact (decide_eq_false (fun e => h (by rw [e]))).symm
  intro hc
  refine HT.loopX (σ := Nat) [1, 2, 15, 16] (fun i => [(17, okI .i64 (i : Int))]) (fun _ => []) (fun i => i ≤ l.length ∧ l.take i = m.take i) (fun i => l.length - i) 0 ⟨Nat.zero_le _, rfl⟩ (run trivial) (run trivial) ?_
  rintro i ⟨hi, he⟩
  have hc' : l.length = m.length := by
    have : (l.length : Int) = (m.length : Int) := Decidable.not_not.1 hc
    omega
  have cf' := fun (hlt : i < l.length) => cf (l.getD i default) (En.getD_mem hlt) (m.getD i default)
  clear cf
  refine run ?_
  refine ⟨fun _ _ h1 h2 => ?_, fun _ _ h1 h2 => ?_, fun h1 => ?_⟩
  · exact (decide_eq_false (fun e => h2 (by rw [e]))).symm
  · exact HX.roundX (i + 1) ⟨⟨by omega, En.take_ext (by omega) hc' he h2⟩, by omega⟩ rfl (run trivial) (run trivial)
  · exact (decide_eq_true (En.take_all h1 hc' he)).symm
theorem attrEq {f : FuncId} {Cs : List Ty} (l m : List En.Attr) (hl : l.length ≤ 1152921504606846976) (cf : ∀ a ∈ l, ∀ b, CFn Try.prog f ([TAgg (En.cAttr a), TAgg (En.cAttr b)] ++ Cs) (Is (.bool (decide (a = b))))) : CFn Try.prog 71 [TSl 2 En.cAttr l, TSl 2 En.cAttr m, TFn f Cs] (Is (.bool (decide (l = m)))) := by
  refine CallsC.of Try.call71 Try.func71 rfl Try.ntmps71 rfl fun w0 G0 S0 hs ho => ?_
  refine run ?_
  refine ⟨?_, ?_⟩
  · intro h
    exact (decide_eq_false (fun e => h (by rw [e]))).symm
  intro hc
  refine HT.loopX (σ := Nat) [1, 2, 15, 16] (fun i => [(17, okI .i64 (i : Int))]) (fun _ => []) (fun i => i ≤ l.length ∧ l.take i = m.take i) (fun i => l.length - i) 0 ⟨Nat.zero_le _, rfl⟩ (run trivial) (run trivial) ?_
  rintro i ⟨hi, he⟩
  have hc' : l.length = m.length := by
    have : (l.length : Int) = (m.length : Int) := Decidable.not_not.1 hc
    omega
  have cf' := fun (hlt : i < l.length) => cf (l.getD i default) (En.getD_mem hlt) (m.getD i default)
  clear cf
  refine run ?_
  refine ⟨fun _ _ h1 h2 => ?_, fun _ _ h1 h2 => ?_, fun h1 => ?_⟩
  · exact (decide_eq_false (fun e => h2 (by rw [e]))).symm
  · exact HX.roundX (i + 1) ⟨⟨by omega, En.take_ext (by omega) hc' he h2⟩, by omega⟩ rfl (run trivial) (run trivial)
  · exact (decide_eq_true (En.take_all h1 hc' he)).symm
theorem ixMod {f : FuncId} {Cs : List Ty} (l : List Ms.Mod) (p : Ms.Mod → Bool) (hl : l.length ≤ 1152921504606846976) (cf : ∀ a ∈ l, CFn Try.prog f ([TAgg (Ms.cMod a)] ++ Cs) (Is (.bool (p a)))) : CFn Try.prog 76 [TSl 3 Ms.cMod l, TFn f Cs] (okI .i64 (En.ixOf p l)) := by
  refine CallsC.of Try.call76 Try.func76 rfl Try.ntmps76 rfl fun w0 G0 S0 hs ho => ?_
  refine run ?_
  refine HT.loopX (σ := Nat) [0, 1, 7] (fun i => [(8, okI .i64 (i : Int))]) (fun i => []) (fun i => i ≤ l.length ∧ (l.take i).any p = false) (fun i => l.length - i) 0 ⟨by omega, by simp⟩ (run trivial) (run trivial) ?_
  rintro i ⟨hi, hp⟩
  have cf' := fun (hlt : i < l.length) => cf (l.getD i default) (En.getD_mem hlt)
  clear cf
  refine run ?_
  refine ⟨fun h1 h2 => ?_, fun h1 h2 => ?_, fun h1 => ?_⟩
  · exact (En.ixOf_at (by omega) hp h2).symm
  · exact HX.roundX (i + 1) ⟨⟨by omega, En.any_snoc (by omega) hp h2⟩, by omega⟩ rfl (run trivial) (run trivial)
  · exact (En.ixOf_none (by rwa [List.take_of_length_le (by omega)] at hp)).symm
theorem anyMod {f : FuncId} {Cs : List Ty} (l : List Ms.Mod) (p : Ms.Mod → Bool) (hl : l.length ≤ 1152921504606846976) (cf : ∀ a ∈ l, CFn Try.prog f ([TAgg (Ms.cMod a)] ++ Cs) (Is (.bool (p a)))) : CFn Try.prog 57 [TSl 3 Ms.cMod l, TFn f Cs] (Is (.bool (l.any p))) := by
  have c1 := ixMod l p hl cf
  refine CallsC.of Try.call57 Try.func57 rfl Try.ntmps57 rfl fun w0 G0 S0 hs ho => ?_
  refine run ?_
  exact En.ixOf_nonneg
end Go.Proofs.Ytkpghepeagafoaa
set_option linter.unusedVariables false
namespace Go.Ms
open Go.Vk
theorem zFil : TAgg (Fi.cF Fi.zeroF) = TAgg [okI .i64 0, Is (str []), Is (str []), TSl 1 Fi.cS [], TSl 5 Fi.cF []] := Fi.cF_open Fi.zeroF
end Go.Ms
set_option maxRecDepth 8000
set_option linter.unusedVariables false
namespace Go.Proofs.Ytkpghepeagafoaa
open Go.Vk
attribute [local irreducible] HT HX RegS RegA RegM OpP OpC AltT
attribute [local irreducible] Ber.tagB Ber.lenB Ber.intB
set_option maxHeartbeats 4000000 in
theorem msSame0 : CFn Try.prog 51 [TAgg (Ms.zReq 0 0), TAgg (Ms.zReq 0 0)] (Is (.bool true)) := by
  have c1 := fpSame 1 Fi.zeroF (by decide) (by decide) Fi.zeroF
  rw [decide_eq_true rfl, Ms.zFil] at c1
  have c2 := txtEq16 [] [] (by decide)
  rw [decide_eq_true rfl] at c2
  have c3 := modEq (f := 74) (Cs := []) [] [] (by decide) (fun a h => by cases h)
  rw [decide_eq_true rfl] at c3
  have c4 := attrEq (f := 72) (Cs := []) [] [] (by decide) (fun a h => by cases h)
  rw [decide_eq_true rfl] at c4
  refine CallsC.of Try.call51 Try.func51 rfl Try.ntmps51 rfl fun w0 G0 S0 hs ho => ?_
  refine run ?_
  exact ⟨fun h => by simp at h, fun _ h => by simp [allB] at h, fun _ _ => rfl⟩
set_option maxHeartbeats 4000000 in
theorem msUnnamed0 : CFn Try.prog 52 [TAgg (Ms.zReq 1 2)] (TAgg (Ms.zReq 0 0)) := by
  refine CallsC.of Try.call52 Try.func52 rfl Try.ntmps52 rfl fun w0 G0 S0 hs ho => ?_
  exact run trivial
set_option maxHeartbeats 4000000 in
theorem msSound0 : CFn Try.prog 43 [TAgg (Ms.zReq 1 2)] (Is (.bool true)) := by
  have c1 := msSame0
  have c2 := msUnnamed0
  have c3 : CFn Try.prog 50 [okI .i64 2] (Is (.bool true)) := msIsKind 2
  have c4 : CFn Try.prog 40 [okI .i64 1, okI .i64 1] (Is (.bool true)) := msIsNum 1 1
  have c5 : CFn Try.prog 40 [okI .i64 0, okI .i64 0] (Is (.bool true)) := msIsNum 0 0
  have c6 : CFn Try.prog 54 [TSl 1 En.cS []] (Is (.bool true)) := msFewS []
  have c7 : CFn Try.prog 55 [TSl 3 Ms.cMod []] (Is (.bool true)) := msFewM []
  have c8 : CFn Try.prog 56 [TSl 2 En.cAttr []] (Is (.bool true)) := msFewA []
  have c9 : CFn Try.prog 57 [TSl 3 Ms.cMod [], TFn 58 []] (Is (.bool false)) := anyMod [] (fun _ => true) (by decide) (fun a h => by cases h)
  have c10 : CFn Try.prog 59 [TSl 2 En.cAttr [], TFn 60 []] (Is (.bool false)) := anyAttr [] (fun _ => true) (by decide) (fun a h => by cases h)
  have su := Sure.mk' [9, 10, 11, 12, 15, 16, 17, 18, 19, 26, 27, 28, 31, 32, 33, 34, 37, 38, 39, 40, 47, 48, 49, 50, 56, 57, 58, 66, 67, 68, 69, 72, 73, 74, 75, 82, 83, 84, 85]
  refine CallsC.of Try.call43 Try.func43 rfl Try.ntmps43 rfl fun w0 G0 S0 hs ho => ?_
  refine run ?_
  exact ⟨fun _ _ _ h => by simp at h, fun _ _ _ _ _ => rfl⟩
set_option maxHeartbeats 4000000 in
theorem msOper0 : CFn Try.prog 46 [TAgg (Ms.zReq 1 2)] (TBytes (Ber.tagB 66 [])) := by
  have c1 := msText [] (by decide)
  have c2 := (tagO 66 [] (by decide) (by decide)).justFn
  refine CallsC.of Try.call46 Try.func46 rfl Try.ntmps46 rfl fun w0 G0 S0 hs ho => ?_
  exact run trivial
set_option maxHeartbeats 4000000 in
theorem msEncode0 : CFn Try.prog 35 [TAgg (Ms.zReq 1 2)] (TTup [TBytes [48, 5, 2, 1, 1, 66, 0], okI .i64 0]) := by
  have c1 := msSound0
  have c2 := msOper0
  have c3 := int 1 (by decide)
  have c4 := (tagO 2 [Ber.intB 1] (by decide +kernel) (by decide)).justFn
  have c5 := (tagO 48 [Ber.tagB 2 [Ber.intB 1], Ber.tagB 66 []] (by decide +kernel) (by decide)).justFn
  have e : Ber.tagB 48 [Ber.tagB 2 [Ber.intB 1], Ber.tagB 66 []] = [48, 5, 2, 1, 1, 66, 0] := by decide +kernel
  rw [e] at c5
  have c6 : CFn Try.prog 44 [okI .u8 48, TSlX 1 (fun ts : List Ty => ts) [[TBytes (Ber.tagB 2 [Ber.intB 1])], [TBytes (Ber.tagB 66 [])]]] (TBytes [48, 5, 2, 1, 1, 66, 0]) := CFn.sub c5 (by (repeat (first | exact TsSub.nil | apply TsSub.cons (by first | with_reducible exact Sub.refl _ | exact Sub.slxT rfl | exact Sub.slT rfl | exact Sub.slx rfl | exact Sub.nil _ _ | exact Sub.refl _) | fail)); done)
  have c7 : CFn Try.prog 44 [okI .u8 2, TSlX 1 (fun ts : List Ty => ts) [[TBytes (Ber.intB 1)]]] (TBytes (Ber.tagB 2 [Ber.intB 1])) := CFn.sub c4 (by (repeat (first | exact TsSub.nil | apply TsSub.cons (by first | with_reducible exact Sub.refl _ | exact Sub.slxT rfl | exact Sub.slT rfl | exact Sub.slx rfl | exact Sub.nil _ _ | exact Sub.refl _) | fail)); done)
  clear c4 c5
  refine CallsC.of Try.call35 Try.func35 rfl Try.ntmps35 rfl fun w0 G0 S0 hs ho => ?_
  refine run ?_
  exact ⟨fun _ h => absurd h (by decide), fun _ h => absurd h (by decide)⟩
theorem opnBytes : Opn Try.prog 23 (cL 1 cB) (fun l => l.length ≤ 140737488351232) := by
  have h := Opn.slice (Opn.byte Try.underlying5 (by kernel_rfl)) Try.underlying23 (by kernel_rfl) (by kernel_rfl)
  rw [show Try.prog.cellsOf 5 = 1 by kernel_rfl] at h
  have hb : Try.prog.bytesOf 5 = 1 := by kernel_rfl
  exact h.map id (fun l => by rw [show Try.prog.cellsOf 23 = 1 by kernel_rfl]; rfl) (fun _ => rfl) (fun l hl => by have := reach_le hl.1; rw [hb] at this; show l.length ≤ _; omega)
end Go.Proofs.Ytkpghepeagafoaa
set_option linter.unusedVariables false
namespace Go.Ss
open Go.Vk
def tot (ls : List (List UInt8)) : Nat := ls.flatten.length
theorem tot_snoc {ls : List (List UInt8)} {i : Nat} (h : i < ls.length) : (ls.take (i + 1)).flatten = (ls.take i).flatten ++ ls.getD i default := by
  rw [List.take_add_one, List.flatten_append, List.getElem?_eq_getElem h, List.getD_eq_getElem?_getD, List.getElem?_eq_getElem h]
  simp
theorem tot_take (ls : List (List UInt8)) (i : Nat) : (ls.take i).flatten.length ≤ ls.flatten.length := by
  have : ls.flatten = (ls.take i).flatten ++ (ls.drop i).flatten := by rw [← List.flatten_append, List.take_append_drop]
  rw [this, List.length_append]; omega
abbrev cTB (l : List UInt8) : List Ty := [TBytes l]
end Go.Ss
set_option maxRecDepth 8000
set_option linter.unusedVariables false
namespace Go.Proofs.Ytkpghepeagafoaa
open Go.Vk
attribute [local irreducible] HT HX RegS RegA RegM OpP OpC AltT
section
variable {P : Program} {F : FCtx} {E : Env} {L : List Res} {Q : Exit → Act → World → Prop} {code : Code} {g c : Nat} {e : TypeId}
/-- Room that holds nothing is a slice of one's own. -/
theorem HT.roomT {t : Nat} (k : Nat) (hE : E.get t = some (Is (slAt g 0 c))) (hL : L[k]? = some (ownA g c e 1 (fun ts : List Ty => ts) [])) (h : HT F ((t, TAnd (Is (.slice (some ⟨g, 0, none⟩) 0 c)) (TBytes [])) :: E) (L.set k (ownSl (.slice (some ⟨g, 0, none⟩) 0 c) 1 e)) code Q) : HT F E L code Q := by
  unfold HT at h ⊢
  intro a w G S hi ht
  obtain ⟨h1, h2, h3, rest, h4, kS, ⟨cs, kc, kcs, kv⟩, kfree⟩ := hi.owns.res k _ hL
  have h4' : cs.size = c * 1 := by rw [kcs]; exact h4
  have ho1 := hi.owns.put (R' := ownSl (.slice (some ⟨g, 0, none⟩) 0 c) 1 e) hL (.inr ⟨g, 0, c, cs, rfl, kS, kc, Nat.zero_le _, h3, h4', fun o _ => kfree o⟩)
  refine h a w G _ ⟨hi.ext, ho1, hi.mine⟩ ⟨ht.size, ht.defers, fun t' T' e' => ?_⟩
  simp only [Env.get] at e'
  cases hb : Nat.beq t t' with
  | false => rw [hb] at e'; exact ht.get t' T' e'
  | true =>
    rw [hb] at e'
    cases e'
    have := Nat.eq_of_beq_eq_true hb
    subst this
    have hv : a.tmps.getD t undef = slAt g 0 c := ht.get t _ hE
    rw [hv, slAt_def]
    exact ⟨rfl, some ⟨g, 0, none⟩, c, rfl, Nat.zero_le _, h3, (fun x => by cases x), (fun x => by cases x), fun ad had => by
        cases had
        exact ⟨fun h => absurd h (by simp), fun i y hy => by simp at hy⟩⟩
end
theorem bGrow (n : Int) (h : 0 < n ∧ n ≤ 100000000) : CallsC Try.prog 16 [Is (.slice none 0 0), okI .i64 n] [] (fun v => TAnd (Is v) (TBytes [])) (fun v => [ownSl v 1 5]) := by
  have st := Stop.mk' 6
  refine CallsC.of Try.call16 Try.func16 rfl Try.ntmps16 rfl fun w0 G0 S0 hs ho => ?_
  refine run ?_
  intro v0 _ _
  refine HTs.mk ?_
  clear st
  refine HT.roomT (t := 0) 0 rfl rfl ?_
  exact run trivial
set_option maxHeartbeats 1000000 in
theorem bConcat (ls : List (List UInt8)) (h0 : 0 < ls.flatten.length) (h1 : ls.flatten.length ≤ 10000000) (hn : ls.length ≤ 1000000) : CFn Try.prog 14 [TSl 1 Ss.cTB ls] (TBytes ls.flatten) := by
  have c1 := bGrow
  refine CallsC.of Try.call14 Try.func14 rfl Try.ntmps14 rfl fun w0 G0 S0 hs ho => ?_
  refine run ?_
  refine HT.loopX (σ := Nat) [0, 2, 9, 10] (fun i => [(3, okI .i64 ((ls.take i).flatten.length : Int)), (11, okI .i64 (i : Int))]) (fun _ => []) (fun i => i ≤ ls.length) (fun i => ls.length - i) 0 (Nat.zero_le _) (run trivial) (by refine run ?_; rfl) ?_
  intro i hi
  by_cases hlt : i < ls.length
  · have e1 := Ss.tot_snoc hlt
    have e2 := Ss.tot_take ls (i + 1)
    rw [e1, List.length_append] at e2
    clear c1
    refine run ?_
    intro _ _
    exact HX.roundX (i + 1) ⟨by omega, by omega⟩ rfl (run trivial) (by refine run ?_; rw [e1, List.length_append]; omega)
  · rw [List.take_of_length_le (by omega)]
    refine run ?_
    intro v0 _
    refine HT.loopX (σ := (Nat × List UInt8) × Value) [2, 25, 26] (fun t => [(6, TAnd (Is t.2) (TBytes t.1.2)), (27, okI .i64 (t.1.1 : Int))]) (fun t => [ownSl t.2 1 5]) (fun t => t.1.1 ≤ ls.length ∧ t.1.2 = (ls.take t.1.1).flatten) (fun t => ls.length - t.1.1) ((0, []), v0) ⟨Nat.zero_le _, rfl⟩ (run trivial) (run trivial) ?_
    clear hi hlt c1
    rintro ⟨⟨j, b⟩, v⟩ ⟨hj, hb⟩
    dsimp only at hj hb ⊢
    by_cases hlt : j < ls.length
    · have e1 := Ss.tot_snoc hlt
      have e2 := Ss.tot_take ls (j + 1)
      rw [e1, List.length_append, ← hb] at e2
      refine run ?_
      intro v' _
      exact HX.roundX ((j + 1, b ++ ls.getD j default), v') ⟨⟨by dsimp only; omega, by dsimp only; rw [e1, hb]⟩, by dsimp only; omega⟩ rfl (run trivial) (run trivial)
    · have hb' : b = ls.flatten := by rw [hb, List.take_of_length_le (by omega)]
      subst hb'
      exact run trivial
end Go.Proofs.Ytkpghepeagafoaa
set_option maxRecDepth 8000
set_option linter.unusedVariables false
namespace Go.Proofs.Ytkpghepeagafoaa
open Go.Vk
attribute [local irreducible] HT HX RegS RegA RegM OpP OpC AltT
theorem tagB_len1 (tag : UInt8) (body : List UInt8) : 2 ≤ (Ber.tagB tag [body]).length ∧ (Ber.tagB tag [body]).length ≤ body.length + 10 := by
  have h := Ber.lenB_len (body.length : Int)
  have h2 : 1 ≤ (Ber.lenB (body.length : Int)).length := by
    unfold Ber.lenB; split <;> simp
  rw [Ber.tagB_one]
  simp only [List.length_cons, List.length_append]
  omega
theorem nextAt {b : List UInt8} {r : Ber.NextR} (h : Ber.nextB b = r) (hl : b.length ≤ 140737488355328) : CFn Try.prog 19 [TBytes b] (TTup [okI .u8 (r.tag.toNat : Int), TBytes r.body, TBytes r.rest, okI .i64 r.e]) := by
  subst h; exact nextP b hl
theorem rep_len (body : List UInt8) (n : Nat) (h : body.length ≤ 300) : (List.replicate n body).flatten.length ≤ n * 300 := by
  induction n with
  | zero => simp
  | succ n ih => rw [List.replicate_succ, List.flatten_cons, List.length_append]; omega
theorem rep_succ (body : List UInt8) (n : Nat) : (List.replicate (n + 1) body).flatten = (List.replicate n body).flatten ++ body := by
  rw [List.replicate_succ', List.flatten_append]; simp
end Go.Proofs.Ytkpghepeagafoaa
set_option maxRecDepth 8000
set_option linter.unusedVariables false
namespace Go.Proofs.Ytkpghepeagafoaa
open Go.Vk
attribute [local irreducible] HT HX RegS RegA RegM OpP OpC AltT
end Go.Proofs.Ytkpghepeagafoaa
set_option maxRecDepth 8000
set_option linter.unusedVariables false
namespace Go.Proofs.Ytkpghepeagafoaa
open Go.Vk
attribute [local irreducible] HT HX RegS RegA RegM OpP OpC AltT
attribute [local irreducible] Ber.lenB Ber.tagB Ber.nextB
theorem tagB_two (tag : UInt8) (a b : List UInt8) : Ber.tagB tag [a, b] = Ber.tagB tag [a ++ b] := by
  unfold Ber.tagB
  simp [Ber.tot]
theorem row_len {zs : List Int} {len : Nat} (h : len ≤ 140737488351232) : (bytesOf (zs.take len)).length ≤ 140737488351232 := by
  simp only [bytesOf, List.length_map, List.length_take]
  omega
end Go.Proofs.Ytkpghepeagafoaa
set_option linter.unusedVariables false
namespace Go.Ber
open Go.Vk
abbrev It := UInt8 × List UInt8
def cIt (x : It) : List Ty := [okI .u8 (x.1.toNat : Int), TBytes x.2]
/-- All tags and bodies, one behind the other; the error. -/
def allE : Nat → List UInt8 → List It → List It × Int
  | 0, _, l => (l, 0)
  | k + 1, b, l => if b.length = 0 then (l, 0) else if (nextB b).e = 0 then allE k (nextB b).rest (l ++ [((nextB b).tag, (nextB b).body)]) else ([], (nextB b).e)
theorem allE_end {k : Nat} {b : List UInt8} {l : List It} (h : b.length = 0) : allE k b l = (l, 0) := by
  cases k
  · rfl
  · unfold allE; rw [if_pos h]
theorem allE_bad {k : Nat} {b : List UInt8} {l : List It} (h : ¬ b.length = 0) (h1 : ¬ (nextB b).e = 0) : allE (k + 1) b l = ([], (nextB b).e) := by
  unfold allE; rw [if_neg h, if_neg h1]
theorem allE_go {k : Nat} {b : List UInt8} {l : List It} (h : ¬ b.length = 0) (h1 : (nextB b).e = 0) : allE (k + 1) b l = allE k (nextB b).rest (l ++ [((nextB b).tag, (nextB b).body)]) := by
  conv => lhs; unfold allE
  rw [if_neg h, if_pos h1]
theorem allE_len : ∀ (k : Nat) (b : List UInt8) (l : List It), (allE k b l).1.length ≤ l.length + b.length
  | 0, b, l => by show l.length ≤ _; omega
  | k + 1, b, l => by
    have h := nextB_len b
    unfold allE
    split
    · dsimp only; omega
    · split
      · rename_i h1
        have := allE_len k (nextB b).rest (l ++ [((nextB b).tag, (nextB b).body)])
        have h2 := h.2.2 h1
        simp only [List.length_append, List.length_cons, List.length_nil] at this
        omega
      · simp
end Go.Ber
set_option maxRecDepth 8000
set_option linter.unusedVariables false
namespace Go.Proofs.Ytkpghepeagafoaa
open Go.Vk
attribute [local irreducible] HT HX RegS RegA RegM OpP OpC AltT
attribute [local irreducible] Ber.lenB Ber.tagB Ber.nextB Ber.allE
set_option maxHeartbeats 1000000 in
theorem all (b : List UInt8) (hl : b.length ≤ 134217728) : CFn Try.prog 28 [TBytes b] (TTup [TSl 2 Ber.cIt (Ber.allE b.length b []).1, okI .i64 (Ber.allE b.length b []).2]) := by
  have c1 := @next
  have c2 := @clone
  refine CallsC.of Try.call28 Try.func28 rfl Try.ntmps28 rfl fun w0 G0 S0 hs ho => ?_
  refine run ?_
  refine HT.loopX (σ := (Nat × List UInt8) × List Ber.It × Value) [] (fun t => [(0, TBytes t.1.2), (4, TAnd (Is t.2.2) (TSl 2 Ber.cIt t.2.1))]) (fun t => [ownSl t.2.2 2 76]) (fun t => Ber.allE t.1.1 t.1.2 t.2.1 = Ber.allE b.length b [] ∧ t.1.2.length ≤ t.1.1 ∧ t.2.1.length + t.1.2.length ≤ b.length) (fun t => t.1.2.length) ((b.length, b), [], .slice none 0 0) ⟨rfl, by simp, by simp⟩ (run trivial) (run trivial) ?_
  rintro ⟨⟨k, c⟩, l, v⟩ ⟨h1, h2, h3⟩
  dsimp only at h1 h2 h3 ⊢
  have hn := Ber.nextB_len c
  by_cases h0 : c.length = 0
  · rw [Ber.allE_end h0] at h1
    rw [← h1]
    exact run trivial
  · obtain ⟨k, rfl⟩ : ∃ j, k = j + 1 := ⟨k - 1, by omega⟩
    by_cases h5 : (Ber.nextB c).e = 0
    · rw [Ber.allE_go h0 h5] at h1
      have hn2 := hn.2.2 h5
      refine run ?_
      intro v' _ _
      exact HX.roundX ((k, (Ber.nextB c).rest), l ++ [((Ber.nextB c).tag, (Ber.nextB c).body)], v') ⟨⟨h1, by dsimp only; omega, by simp; omega⟩, by dsimp only; omega⟩ rfl (run trivial) (run trivial)
    · rw [Ber.allE_bad h0 h5] at h1
      rw [← h1]
      exact run trivial
end Go.Proofs.Ytkpghepeagafoaa
set_option linter.unusedVariables false
namespace Go.Ms
open Go.Vk
/-- Whether an item of a tag is next. -/
def isI : List Ber.It → Bool → UInt8 → Bool
  | [], _, _ => false
  | x :: _, bad, t => !bad && decide (x.1 = t)
/-- What is taken; what is left. -/
def takeI : List Ber.It → Bool → UInt8 → List UInt8 × List Ber.It × Bool
  | [], _, _ => ([], [], true)
  | x :: r, bad, t => if bad = false ∧ x.1 = t then (x.2, r, bad) else ([], x :: r, true)
theorem takeI_is {l : List Ber.It} {bad : Bool} {t : UInt8} (h : isI l bad t = true) : bad = false ∧ ∃ x r, l = x :: r ∧ x.1 = t ∧ takeI l bad t = (x.2, r, false) := by
  cases l with
  | nil => cases h
  | cons x r =>
    unfold isI at h
    simp only [Bool.and_eq_true, Bool.not_eq_true', decide_eq_true_eq] at h
    obtain ⟨h1, h2⟩ := h
    subst h1
    exact ⟨rfl, x, r, rfl, h2, if_pos ⟨rfl, h2⟩⟩
theorem takeI_no {l : List Ber.It} {bad : Bool} {t : UInt8} (h : isI l bad t = false) : takeI l bad t = ([], l, true) := by
  cases l with
  | nil => rfl
  | cons x r =>
    unfold isI at h
    refine if_neg ?_
    intro hh
    have h' : (!bad && decide (x.1 = t)) = false := h
    rw [hh.1, decide_eq_true hh.2] at h'
    exact absurd h' (by simp)
def numI (l : List Ber.It) (bad : Bool) (t : UInt8) : Int × List Ber.It × Bool := ((Ber.fromIntB (takeI l bad t).1).1, (takeI l bad t).2.1, (takeI l bad t).2.2 || decide ((Ber.fromIntB (takeI l bad t).1).2 ≠ 0))
theorem u8_i {a b : UInt8} : ((a.toNat : Int) = (b.toNat : Int)) ↔ a = b := ⟨fun h => UInt8.toNat_inj.1 (by omega), fun h => by rw [h]⟩
end Go.Ms
set_option maxRecDepth 8000
set_option linter.unusedVariables false
namespace Go.Proofs.Ytkpghepeagafoaa
open Go.Vk
attribute [local irreducible] HT HX RegS RegA RegM OpP OpC AltT
attribute [local irreducible] Ber.tagB Ber.lenB Ber.intB Ber.allE Ber.fromIntB Ber.nextB
abbrev IX (g : Nat) (l : List Ber.It) (bad : Bool) : Res := ownP g 70 [TSl 2 Ber.cIt l, Is (.bool bad)]
theorem miApart (b : List UInt8) (hb : b.length ≤ 134217728) : CallsC Try.prog 20 [TBytes b] [] (fun v => Is (pAt (blk v) 0)) (fun v => [IX (blk v) (Ber.allE b.length b []).1 (decide ((Ber.allE b.length b []).2 ≠ 0))]) := by
  have c1 := all b hb
  have mu := Mut.mk' [14]
  refine CallsC.of Try.call20 Try.func20 rfl Try.ntmps20 rfl fun w0 G0 S0 hs ho => ?_
  exact run trivial
theorem miIs (g : Nat) (l : List Ber.It) (bad : Bool) (t : UInt8) : CallsC Try.prog 23 [Is (pAt g 0), okI .u8 (t.toNat : Int)] [IX g l bad] (fun _ => Is (.bool (Ms.isI l bad t))) (fun _ => [IX g l bad]) := by
  refine CallsC.of Try.call23 Try.func23 rfl Try.ntmps23 rfl fun w0 G0 S0 hs ho => ?_
  refine run ?_
  cases l with
  | nil => simp [Ms.isI]
  | cons x r =>
    have hx : ((x.1.toNat : Int) = (t.toNat : Int)) ↔ x.1 = t := Ms.u8_i
    have e : Ms.isI (x :: r) bad t = (!bad && decide (x.1 = t)) := rfl
    rw [e, List.getD_cons_zero]
    have : decide ((x.1.toNat : Int) = (t.toNat : Int)) = decide (x.1 = t) := decide_eq_decide.2 hx
    rw [this]
    simp
theorem miTake (g : Nat) (l : List Ber.It) (bad : Bool) (t : UInt8) (hl : l.length ≤ 134217728) : CallsC Try.prog 24 [Is (pAt g 0), okI .u8 (t.toNat : Int)] [IX g l bad] (fun _ => TBytes (Ms.takeI l bad t).1) (fun _ => [IX g (Ms.takeI l bad t).2.1 (Ms.takeI l bad t).2.2]) := by
  have c1 := miIs g l bad t
  cases h : Ms.isI l bad t with
  | true =>
    obtain ⟨rfl, x, r, rfl, hx, e⟩ := Ms.takeI_is h
    rw [e]
    rw [h] at c1
    refine CallsC.of Try.call24 Try.func24 rfl Try.ntmps24 rfl fun w0 G0 S0 hs ho => ?_
    refine run ?_
    exact ⟨fun _ => rfl, fun _ => rfl⟩
  | false =>
    rw [Ms.takeI_no h]
    rw [h] at c1
    refine CallsC.of Try.call24 Try.func24 rfl Try.ntmps24 rfl fun w0 G0 S0 hs ho => ?_
    exact run trivial
theorem miNum (g : Nat) (l : List Ber.It) (bad : Bool) (t : UInt8) (hl : l.length ≤ 134217728) : CallsC Try.prog 21 [Is (pAt g 0), okI .u8 (t.toNat : Int)] [IX g l bad] (fun _ => okI .i64 (Ms.numI l bad t).1) (fun _ => [IX g (Ms.numI l bad t).2.1 (Ms.numI l bad t).2.2]) := by
  have c1 := miTake g l bad t hl
  have c2 := fromInt (Ms.takeI l bad t).1
  unfold Ms.numI
  generalize Ms.takeI l bad t = y at c1 c2 ⊢
  generalize Ber.fromIntB y.1 = z at c2 ⊢
  refine CallsC.of Try.call21 Try.func21 rfl Try.ntmps21 rfl fun w0 G0 S0 hs ho => ?_
  exact run trivial
end Go.Proofs.Ytkpghepeagafoaa
set_option linter.unusedVariables false
namespace Go.Ss
open Go.Vk
theorem next0 : Ber.nextB [48, 5, 2, 1, 1, 66, 0] = ⟨48, [2, 1, 1, 66, 0], [], 0⟩ := by rfl
end Go.Ss
set_option maxRecDepth 8000
set_option linter.unusedVariables false
namespace Go.Proofs.Ytkpghepeagafoaa
open Go.Vk
attribute [local irreducible] HT HX RegS RegA RegM OpP OpC AltT
attribute [local irreducible] Ber.tagB Ber.lenB Ber.intB Ber.allE Ber.fromIntB Ber.nextB
theorem msIs0 : CFn Try.prog 25 [TAgg (Ms.zReq 1 2)] (Is (.bool true)) := by
  have c1 := msEncode0
  refine CallsC.of Try.call25 Try.func25 rfl Try.ntmps25 rfl fun w0 G0 S0 hs ho => ?_
  exact run trivial
theorem miRequest0 (g g2 : Nat) : CallsC Try.prog 22 [Is (pAt g 0), Is (pAt g2 0)] [IX g [(66, [])] false, ownP g2 48 (Ms.zReq 1 0)] (fun _ => TTup []) (fun _ => [IX g [] false, ownP g2 48 (Ms.zReq 1 2)]) := by
  have c1 : CallsC Try.prog 24 [Is (pAt g 0), okI .u8 66] [IX g [(66, [])] false] (fun _ => TBytes []) (fun _ => [IX g [] false]) := miTake g [(66, [])] false 66 (by decide)
  obtain ⟨l, hl⟩ : ∃ l : List Ber.It, l = [(66, [])] := ⟨_, rfl⟩
  have f1 : l.length = 1 := by rw [hl]; rfl
  have f2 : ((l.getD 0 default).1.toNat : Int) = 66 := by rw [hl]; rfl
  have f3 : ((l.getD (nat_lit 0) default).1.toNat : Int) = 66 := f2
  have c2 : CallsC Try.prog 24 [Is (pAt g 0), okI .u8 ((l.getD 0 default).1.toNat : Int)] [IX g l false] (fun _ => TBytes []) (fun _ => [IX g [] false]) := by rw [f2, hl]; exact c1
  rw [← hl]
  clear c1 hl
  refine CallsC.of Try.call22 Try.func22 rfl Try.ntmps22 rfl fun w0 G0 S0 hs ho => ?_
  exact run trivial
theorem msDecode0 : CFn Try.prog 18 [TBytes [48, 5, 2, 1, 1, 66, 0]] (TTup [TAgg (Ms.zReq 1 2), okI .i64 0]) := by
  have c1 := nextP [48, 5, 2, 1, 1, 66, 0] (by decide)
  rw [Ss.next0] at c1
  dsimp only at c1
  have n1 : Ber.allE ([2, 1, 1, 66, 0] : List UInt8).length [2, 1, 1, 66, 0] [] = ([(2, [1]), (66, [])], 0) := by decide +kernel
  have c2 := miApart [2, 1, 1, 66, 0] (by decide)
  rw [n1] at c2
  dsimp only at c2
  have n2 : Ms.numI [(2, [1]), (66, [])] false 2 = (1, [(66, [])], false) := by decide +kernel
  have c3 := fun g => miNum g [(2, [1]), (66, [])] false 2 (by decide)
  rw [n2] at c3
  dsimp only at c3
  have c4 := miRequest0
  have c5 : ∀ g, CallsC Try.prog 23 [Is (pAt g 0), okI .u8 160] [IX g [] false] (fun _ => Is (.bool false)) (fun _ => [IX g [] false]) := fun g => miIs g [] false 160
  have c6 := msIs0
  have mu := Mut.mk' [8]
  refine CallsC.of Try.call18 Try.func18 rfl Try.ntmps18 rfl fun w0 G0 S0 hs ho => ?_
  refine run ?_
  refine ⟨?_, ?_, ?_⟩ <;> (intro _ _ _ _ _ h; exact absurd h (by decide))
end Go.Proofs.Ytkpghepeagafoaa
set_option linter.unusedVariables false
namespace Go.Ss
open Go.Vk
abbrev nilS : Ty := Is (.slice none 0 0)
abbrev cR1 (_ : Unit) : List Ty := Ms.zReq 1 2
def half1 : List UInt8 := [48, 5, 2, 1, 1]
def half2 : List UInt8 := [66, 0]
theorem fr1 : Ms.frameB half1 = (0, 0) := by decide +kernel
theorem fr2 : Ms.frameB [48, 5, 2, 1, 1, 66, 0] = (7, 0) := by decide +kernel
end Go.Ss
set_option maxRecDepth 8000
set_option linter.unusedVariables false
namespace Go.Proofs.Ytkpghepeagafoaa
open Go.Vk
attribute [local irreducible] HT HX RegS RegA RegM OpP OpC AltT
attribute [local irreducible] Ber.tagB Ber.lenB Ber.intB Ber.allE Ber.fromIntB Ber.nextB Ms.frameB
abbrev SX (g : Nat) (o : Bool) (W T : Ty) : Res := ownP g 38 [Is (.bool o), W, T]
theorem seNew : CallsC Try.prog 5 [] [] (fun v => Is (pAt (blk v) 0)) (fun v => [SX (blk v) true (TSl 2 Dn.cAva []) (TBytes [])]) := by
  have mu := Mut.mk' [2]
  refine CallsC.of Try.call5 Try.func5 rfl Try.ntmps5 rfl fun w0 G0 S0 hs ho => ?_
  exact run trivial
theorem seOpen (g : Nat) (o : Bool) (W T : Ty) : CallsC Try.prog 7 [Is (pAt g 0)] [SX g o W T] (fun _ => Is (.bool o)) (fun _ => [SX g o W T]) := by
  refine CallsC.of Try.call7 Try.func7 rfl Try.ntmps7 rfl fun w0 G0 S0 hs ho => ?_
  refine run ?_
  simp
theorem seOpenN : CFn Try.prog 7 [Is (.pointer none)] (Is (.bool false)) := by
  have su := Sure.mk' [6, 7, 8, 9]
  refine CallsC.of Try.call7 Try.func7 rfl Try.ntmps7 rfl fun w0 G0 S0 hs ho => ?_
  refine run ?_
  rfl
theorem seClose (g : Nat) (o : Bool) (W T : Ty) : CallsC Try.prog 9 [Is (pAt g 0)] [SX g o W T] (fun _ => TTup []) (fun _ => [SX g false W Ss.nilS]) := by
  refine CallsC.of Try.call9 Try.func9 rfl Try.ntmps9 rfl fun w0 G0 S0 hs ho => ?_
  exact run trivial
theorem seCloseN : CFn Try.prog 9 [Is (.pointer none)] (TTup []) := by
  refine CallsC.of Try.call9 Try.func9 rfl Try.ntmps9 rfl fun w0 G0 S0 hs ho => ?_
  exact run trivial
theorem seWaiting (g : Nat) (o : Bool) (W : Ty) : CallsC Try.prog 11 [Is (pAt g 0)] [SX g o W Ss.nilS] (fun _ => okI .i64 0) (fun _ => [SX g o W Ss.nilS]) := by
  refine CallsC.of Try.call11 Try.func11 rfl Try.ntmps11 rfl fun w0 G0 S0 hs ho => ?_
  exact run trivial
theorem seWaitingN : CFn Try.prog 11 [Is (.pointer none)] (okI .i64 0) := by
  refine CallsC.of Try.call11 Try.func11 rfl Try.ntmps11 rfl fun w0 G0 S0 hs ho => ?_
  exact run trivial
theorem seWho (g : Nat) (o : Bool) (l : List Dn.Ava) (T : Ty) (hl : l.length ≤ 134217728) : CallsC Try.prog 6 [Is (pAt g 0)] [SX g o (TSl 2 Dn.cAva l) T] (fun _ => TSl 2 Dn.cAva l) (fun _ => [SX g o (TSl 2 Dn.cAva l) T]) := by
  have c1 := avaClone l hl
  refine CallsC.of Try.call6 Try.func6 rfl Try.ntmps6 rfl fun w0 G0 S0 hs ho => ?_
  exact run trivial
theorem seWhoN : CFn Try.prog 6 [Is (.pointer none)] Ss.nilS := by
  refine CallsC.of Try.call6 Try.func6 rfl Try.ntmps6 rfl fun w0 G0 S0 hs ho => ?_
  exact run trivial
theorem seBind (g : Nat) (o : Bool) (l : List Dn.Ava) (W T : Ty) (hl : l.length ≤ 134217728) : CallsC Try.prog 8 [Is (pAt g 0), TSl 2 Dn.cAva l] [SX g o W T] (fun _ => TTup []) (fun _ => [SX g o (TSl 2 Dn.cAva l) T]) := by
  have c1 := avaClone l hl
  refine CallsC.of Try.call8 Try.func8 rfl Try.ntmps8 rfl fun w0 G0 S0 hs ho => ?_
  exact run trivial
theorem seBindN : CFn Try.prog 8 [Is (.pointer none), Ss.nilS] (TTup []) := by
  refine CallsC.of Try.call8 Try.func8 rfl Try.ntmps8 rfl fun w0 G0 S0 hs ho => ?_
  exact run trivial
theorem seTakeN (p : List UInt8) : CFn Try.prog 10 [Is (.pointer none), TBytes p] (TTup [Ss.nilS, Is (.bool false)]) := by
  have c1 := seOpenN
  refine CallsC.of Try.call10 Try.func10 rfl Try.ntmps10 rfl fun w0 G0 S0 hs ho => ?_
  exact run trivial
theorem seTakeC (g : Nat) (W T : Ty) (p : List UInt8) : CallsC Try.prog 10 [Is (pAt g 0), TBytes p] [SX g false W T] (fun _ => TTup [Ss.nilS, Is (.bool false)]) (fun _ => [SX g false W T]) := by
  have c1 := seOpen g false W T
  refine CallsC.of Try.call10 Try.func10 rfl Try.ntmps10 rfl fun w0 G0 S0 hs ho => ?_
  exact run trivial
theorem seNext1 (g : Nat) (W : Ty) : CallsC Try.prog 15 [Is (pAt g 0)] [SX g true W (TBytes Ss.half1)] (fun _ => TTup [TAgg (Ms.zReq 0 0), Is (.bool false), Is (.bool false)]) (fun _ => [SX g true W (TBytes Ss.half1)]) := by
  have c1 := msFrame Ss.half1 (by decide)
  rw [Ss.fr1] at c1
  dsimp only at c1
  refine CallsC.of Try.call15 Try.func15 rfl Try.ntmps15 rfl fun w0 G0 S0 hs ho => ?_
  exact run trivial
theorem seNext2 (g : Nat) (W : Ty) : CallsC Try.prog 15 [Is (pAt g 0)] [SX g true W (TBytes [48, 5, 2, 1, 1, 66, 0])] (fun _ => TTup [TAgg (Ms.zReq 1 2), Is (.bool true), Is (.bool false)]) (fun _ => [SX g true W (TBytes [])]) := by
  have c1 := msFrame [48, 5, 2, 1, 1, 66, 0] (by decide)
  rw [Ss.fr2] at c1
  dsimp only at c1
  have c2 := msDecode0
  refine CallsC.of Try.call15 Try.func15 rfl Try.ntmps15 rfl fun w0 G0 S0 hs ho => ?_
  refine run ?_
  intros; rfl
theorem seTake1 (g : Nat) : CallsC Try.prog 10 [Is (pAt g 0), TBytes Ss.half1] [SX g true (TSl 2 Dn.cAva []) (TBytes [])] (fun _ => TTup [TSl 21 Ss.cR1 [], Is (.bool false)]) (fun _ => [SX g true (TSl 2 Dn.cAva []) (TBytes Ss.half1)]) := by
  have c1 := seOpen g true (TSl 2 Dn.cAva []) (TBytes [])
  have c2 := bConcat [[], Ss.half1] (by decide) (by decide) (by decide)
  have e : ([[], Ss.half1] : List (List UInt8)).flatten = Ss.half1 := rfl
  rw [e] at c2
  have c3 := seNext1 g (TSl 2 Dn.cAva [])
  refine CallsC.of Try.call10 Try.func10 rfl Try.ntmps10 rfl fun w0 G0 S0 hs ho => ?_
  refine run ?_
  intro _
  refine HT.loopX (σ := Unit) [0] (fun t => [(6, TSl 21 Ss.cR1 [])]) (fun t => [SX g true (TSl 2 Dn.cAva []) (TBytes Ss.half1)]) (fun t => True) (fun t => 0) () trivial (run trivial) (run trivial) ?_
  clear c1 c2
  intro _ _
  exact run trivial
theorem seTake2 (g : Nat) : CallsC Try.prog 10 [Is (pAt g 0), TBytes Ss.half2] [SX g true (TSl 2 Dn.cAva []) (TBytes Ss.half1)] (fun _ => TTup [TSl 21 Ss.cR1 [()], Is (.bool false)]) (fun _ => [SX g false (TSl 2 Dn.cAva []) Ss.nilS]) := by
  have c1 := seOpen g true (TSl 2 Dn.cAva []) (TBytes Ss.half1)
  have c2 := bConcat [Ss.half1, Ss.half2] (by decide) (by decide) (by decide)
  have e : ([Ss.half1, Ss.half2] : List (List UInt8)).flatten = [48, 5, 2, 1, 1, 66, 0] := rfl
  rw [e] at c2
  have c3 := seNext2 g (TSl 2 Dn.cAva [])
  have c4 := seClose g true (TSl 2 Dn.cAva []) (TBytes [])
  refine CallsC.of Try.call10 Try.func10 rfl Try.ntmps10 rfl fun w0 G0 S0 hs ho => ?_
  refine run ?_
  intro _
  refine HT.loopX (σ := (Bool × List Unit × Ty) × Value) [0] (fun t => [(6, TAnd (Is t.2) (TSl 21 Ss.cR1 t.1.2.1))]) (fun t => [SX g t.1.1 (TSl 2 Dn.cAva []) t.1.2.2, ownSl t.2 21 48]) (fun t => (t.1 = (true, [], TBytes [48, 5, 2, 1, 1, 66, 0]) ∨ t.1 = (false, [()], Ss.nilS))) (fun t => if t.1.1 then 1 else 0) ((true, [], TBytes [48, 5, 2, 1, 1, 66, 0]), .slice none 0 0) (.inl rfl) (run trivial) (run trivial) ?_
  clear c1 c2
  rintro ⟨⟨o, l, T⟩, w⟩ hh
  dsimp only at hh ⊢
  rcases hh with hh | hh
  · cases hh
    refine run ?_
    intro v0 v1 _ _ _ _
    exact HX.roundX ((false, [()], Ss.nilS), v1) ⟨.inr rfl, by simp⟩ rfl (run trivial) (run trivial)
  · cases hh
    clear c3 c4
    exact run trivial
theorem lwKnown26 : CFn Try.prog 12 [] (Is (.bool true)) := by
  have c1 := seNew
  have c2 := seTake1
  unfold Ss.half1 at c2
  have su := Sure.mk' [25, 26, 29, 30, 31, 34, 35, 38, 39, 40, 41, 42, 45, 46, 47]
  have st := Stop.mk' 5
  refine CallsC.of Try.call12 Try.func12 rfl Try.ntmps12 rfl fun w0 G0 S0 hs ho => ?_
  refine run ?_
  intro v0 _
  refine HTs.mk ?_
  clear st c1 c2
  have c3 := seTake2
  unfold Ss.half1 Ss.half2 at c3
  have c4 := fun g => seOpen g false (TSl 2 Dn.cAva []) Ss.nilS
  exact run trivial
theorem lwNothing (b : List UInt8) : CFn Try.prog 4 [TBytes b] (Is (.bool true)) := by
  have c1 := lwKnown26
  have c2 := seTakeN b
  have c3 := seBindN
  have c4 := seCloseN
  have c5 := seWhoN
  have c6 := seOpenN
  have c7 := seWaitingN
  have su := Sure.mk' [23, 24, 27, 28, 29, 30, 33, 34, 35, 38, 39, 40, 43]
  refine CallsC.of Try.call4 Try.func4 rfl Try.ntmps4 rfl fun w0 G0 S0 hs ho => ?_
  exact run trivial
set_option maxHeartbeats 2000000 in
theorem lwBound (who : List Dn.Ava) (b : List UInt8) : CFn Try.prog 3 [TSl 2 Dn.cAva who, TBytes b] (Is (.bool true)) := by
  have c1 := lwKnown26
  by_cases hs : 12 < who.length ∨ 500 < b.length
  · refine CallsC.of Try.call3 Try.func3 rfl Try.ntmps3 rfl fun w0 G0 S0 hs ho => ?_
    exact run trivial
  have d1 := seNew
  have d2 := fun g (l : List Dn.Ava) => seWho g true l (TBytes [])
  have d3 := seOpen
  have d4 := fun g => seBind g true who (TSl 2 Dn.cAva []) (TBytes []) (by omega)
  have d6 := fun g => seClose g true (TSl 2 Dn.cAva who) (TBytes [])
  have d7 := fun g => seTakeC g (TSl 2 Dn.cAva who) Ss.nilS b
  have d9 := fun g => seWaiting g false (TSl 2 Dn.cAva who)
  have su := Sure.mk' [22, 23, 24, 25, 28, 29, 30, 69, 70, 73, 74, 75, 78, 79, 80, 83]
  refine CallsC.of Try.call3 Try.func3 rfl Try.ntmps3 rfl fun w0 G0 S0 hs ho => ?_
  refine run ?_
  refine ⟨fun _ _ h => absurd rfl h, fun v0 _ _ _ => ?_⟩
  refine HT.loopX (σ := Nat) [0, 1, 5, 6] (fun i => [(7, okI .i64 (i : Int))]) (fun _ => [SX (blk v0) true (TSl 2 Dn.cAva who) (TBytes [])]) (fun i => i ≤ who.length) (fun i => who.length - i) 0 (Nat.zero_le _) (run trivial) (run trivial) ?_
  intro i hi
  by_cases hlt : i < who.length
  · clear c1 d1 d2 d3 d4 d6 d7 d9
    refine run ?_
    exact ⟨fun _ h => absurd h (by simp [allB]), fun _ _ => HX.roundX (i + 1) ⟨by omega, by omega⟩ rfl (run trivial) (run trivial)⟩
  · clear d1 d2 d4
    exact run trivial
theorem opnBytes26 : Opn Try.prog 23 (cL 1 cB) (fun l => l.length ≤ 140737488351232) := opnBytes
end Go.Proofs.Ytkpghepeagafoaa
