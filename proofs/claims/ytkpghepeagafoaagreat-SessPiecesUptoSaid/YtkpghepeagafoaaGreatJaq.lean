/-
  The contract of the program's Is of filters: Equal, Greater, Less.
  The contract of the program's Is of filters: Sub, Present, others.
  The contract of the program's Is of filters: every filter, however deep.
  Requests: the plain structure; the contracts of the program's unnamed, Same, sound.
  The contracts of the program's Same and sound.
  A request's operation as bytes; the contracts of the program's operation, Encode, Is. Printed by mkm7.py.
  What the reference's FromBool, Int and FromInt compute is what ber's own compute; no conditions but that a number is one of 64 bits.
  The contracts of the document's tag, text, num, rows, attr, attrs, mods.
-/
import Derived.Test.YtkpghepeagafoaaGreatJap
import Derived.Test.YtkpghepeagafoaaGreatJao
import Derived.Test.YtkpghepeagafoaaGreatJae
import Derived.Test.YtkpghepeagafoaaGreatJal
set_option linter.unusedSimpArgs false
set_option linter.unusedVariables false
set_option linter.unusedVariables false
set_option maxRecDepth 8000
set_option linter.unusedVariables false
namespace Go.Proofs.YtkpghepeagafoaaGreat
open Go.Vk
attribute [local irreducible] HT HX RegS RegA RegM OpP OpC AltT
attribute [local irreducible] Dn.typB Fi.mayF Fi.mayL Fi.mayIx Fi.badIx Fi.subsB
set_option maxHeartbeats 8000000 in
theorem fpMay_3 (t v : List UInt8) (s : List (List UInt8)) (ks : List Fi.Fil) (hk : ∀ f ∈ ks, MayC f) (hw : Fi.wt (.mk 3 t v s ks) ≤ 1100000) : MayC (.mk 3 t v s ks) := by
  intro deep g left hd h0 h1
  have hw' := hw
  rw [Fi.wt] at hw'
  have w1 := wtL_len ks
  have w2 := subsW_len s
  rw [Fi.mayF_mk, Fi.cF_open]
  dsimp only [Fi.Fil.kind, Fi.Fil.typ, Fi.Fil.val, Fi.Fil.subs, Fi.Fil.kids]
  have c1 := dnType t
  have c2 := fpSubs s
  by_cases hout : left - 1 < 0 ∨ 16 ≤ deep
  · rw [if_pos hout]
    clear hk
    refine CallsC.of Tryz.call132 Tryz.func132 rfl Tryz.ntmps132 rfl fun w0 G0 S0 hs ho => ?_
    exact run trivial
  · rw [if_neg hout]
    have c3 := anyFil (f := 142) (Cs := [TPc [okI .i64 (deep : Int)], TPc [Is (pAt g 0)]]) ks (deep + 1) g (left - 1) (by omega) (by omega) (fun k hk' n n0 n1 => fpMay1 k (hk k hk') deep g n (by omega) n0 n1)
    clear hk
    have su := Sure.mk' [86, 87, 88, 89, 90]
    rw [Fi.mayH_3 (by simp)]
    have st := Stop.mk' 18
    refine CallsC.of Tryz.call132 Tryz.func132 rfl Tryz.ntmps132 rfl fun w0 G0 S0 hs ho => ?_
    refine run ?_
    intros
    refine HTs.mk ?_
    clear st
    cases hB : (Dn.typB t && decide ((v.length : Int) ≤ 256) && decide ((s.length : Int) = 0) && decide ((ks.length : Int) = 0)) with
    | true =>
      rw [if_pos rfl]
      refine run ?_
      intros
      rw [hB]; simp
    | false =>
      rw [if_neg (by simp)]
      refine run ?_
      intros
      rw [hB]; simp
set_option maxHeartbeats 8000000 in
theorem fpMay_5 (t v : List UInt8) (s : List (List UInt8)) (ks : List Fi.Fil) (hk : ∀ f ∈ ks, MayC f) (hw : Fi.wt (.mk 5 t v s ks) ≤ 1100000) : MayC (.mk 5 t v s ks) := by
  intro deep g left hd h0 h1
  have hw' := hw
  rw [Fi.wt] at hw'
  have w1 := wtL_len ks
  have w2 := subsW_len s
  rw [Fi.mayF_mk, Fi.cF_open]
  dsimp only [Fi.Fil.kind, Fi.Fil.typ, Fi.Fil.val, Fi.Fil.subs, Fi.Fil.kids]
  have c1 := dnType t
  have c2 := fpSubs s
  by_cases hout : left - 1 < 0 ∨ 16 ≤ deep
  · rw [if_pos hout]
    clear hk
    refine CallsC.of Tryz.call132 Tryz.func132 rfl Tryz.ntmps132 rfl fun w0 G0 S0 hs ho => ?_
    exact run trivial
  · rw [if_neg hout]
    have c3 := anyFil (f := 142) (Cs := [TPc [okI .i64 (deep : Int)], TPc [Is (pAt g 0)]]) ks (deep + 1) g (left - 1) (by omega) (by omega) (fun k hk' n n0 n1 => fpMay1 k (hk k hk') deep g n (by omega) n0 n1)
    clear hk
    have su := Sure.mk' [86, 87, 88, 89, 90]
    rw [Fi.mayH_3 (by simp)]
    have st := Stop.mk' 18
    refine CallsC.of Tryz.call132 Tryz.func132 rfl Tryz.ntmps132 rfl fun w0 G0 S0 hs ho => ?_
    refine run ?_
    intros
    refine HTs.mk ?_
    clear st
    cases hB : (Dn.typB t && decide ((v.length : Int) ≤ 256) && decide ((s.length : Int) = 0) && decide ((ks.length : Int) = 0)) with
    | true =>
      rw [if_pos rfl]
      refine run ?_
      intros
      rw [hB]; simp
    | false =>
      rw [if_neg (by simp)]
      refine run ?_
      intros
      rw [hB]; simp
set_option maxHeartbeats 8000000 in
theorem fpMay_6 (t v : List UInt8) (s : List (List UInt8)) (ks : List Fi.Fil) (hk : ∀ f ∈ ks, MayC f) (hw : Fi.wt (.mk 6 t v s ks) ≤ 1100000) : MayC (.mk 6 t v s ks) := by
  intro deep g left hd h0 h1
  have hw' := hw
  rw [Fi.wt] at hw'
  have w1 := wtL_len ks
  have w2 := subsW_len s
  rw [Fi.mayF_mk, Fi.cF_open]
  dsimp only [Fi.Fil.kind, Fi.Fil.typ, Fi.Fil.val, Fi.Fil.subs, Fi.Fil.kids]
  have c1 := dnType t
  have c2 := fpSubs s
  by_cases hout : left - 1 < 0 ∨ 16 ≤ deep
  · rw [if_pos hout]
    clear hk
    refine CallsC.of Tryz.call132 Tryz.func132 rfl Tryz.ntmps132 rfl fun w0 G0 S0 hs ho => ?_
    exact run trivial
  · rw [if_neg hout]
    have c3 := anyFil (f := 142) (Cs := [TPc [okI .i64 (deep : Int)], TPc [Is (pAt g 0)]]) ks (deep + 1) g (left - 1) (by omega) (by omega) (fun k hk' n n0 n1 => fpMay1 k (hk k hk') deep g n (by omega) n0 n1)
    clear hk
    have su := Sure.mk' [86, 87, 88, 89, 90]
    rw [Fi.mayH_3 (by simp)]
    have st := Stop.mk' 18
    refine CallsC.of Tryz.call132 Tryz.func132 rfl Tryz.ntmps132 rfl fun w0 G0 S0 hs ho => ?_
    refine run ?_
    intros
    refine HTs.mk ?_
    clear st
    cases hB : (Dn.typB t && decide ((v.length : Int) ≤ 256) && decide ((s.length : Int) = 0) && decide ((ks.length : Int) = 0)) with
    | true =>
      rw [if_pos rfl]
      refine run ?_
      intros
      rw [hB]; simp
    | false =>
      rw [if_neg (by simp)]
      refine run ?_
      intros
      rw [hB]; simp
end Go.Proofs.YtkpghepeagafoaaGreat
set_option linter.unusedVariables false
set_option maxRecDepth 8000
set_option linter.unusedVariables false
namespace Go.Proofs.YtkpghepeagafoaaGreat
open Go.Vk
attribute [local irreducible] HT HX RegS RegA RegM OpP OpC AltT
attribute [local irreducible] Dn.typB Fi.mayF Fi.mayL Fi.mayIx Fi.badIx Fi.subsB
set_option maxHeartbeats 8000000 in
theorem fpMay_4 (t v : List UInt8) (s : List (List UInt8)) (ks : List Fi.Fil) (hk : ∀ f ∈ ks, MayC f) (hw : Fi.wt (.mk 4 t v s ks) ≤ 1100000) : MayC (.mk 4 t v s ks) := by
  intro deep g left hd h0 h1
  have hw' := hw
  rw [Fi.wt] at hw'
  have w1 := wtL_len ks
  have w2 := subsW_len s
  rw [Fi.mayF_mk, Fi.cF_open]
  dsimp only [Fi.Fil.kind, Fi.Fil.typ, Fi.Fil.val, Fi.Fil.subs, Fi.Fil.kids]
  have c1 := dnType t
  have c2 := fpSubs s
  by_cases hout : left - 1 < 0 ∨ 16 ≤ deep
  · rw [if_pos hout]
    clear hk
    refine CallsC.of Tryz.call132 Tryz.func132 rfl Tryz.ntmps132 rfl fun w0 G0 S0 hs ho => ?_
    exact run trivial
  · rw [if_neg hout]
    have c3 := anyFil (f := 142) (Cs := [TPc [okI .i64 (deep : Int)], TPc [Is (pAt g 0)]]) ks (deep + 1) g (left - 1) (by omega) (by omega) (fun k hk' n n0 n1 => fpMay1 k (hk k hk') deep g n (by omega) n0 n1)
    clear hk
    have su := Sure.mk' [86, 87, 88, 89, 90]
    rw [Fi.mayH_4]
    have st := Stop.mk' 18
    refine CallsC.of Tryz.call132 Tryz.func132 rfl Tryz.ntmps132 rfl fun w0 G0 S0 hs ho => ?_
    refine run ?_
    intros
    refine HTs.mk ?_
    clear st
    cases hB : (Dn.typB t && decide (v = []) && Fi.subsB s && decide ((ks.length : Int) = 0)) with
    | true =>
      rw [if_pos rfl]
      refine run ?_
      intros
      rw [hB]; simp
    | false =>
      rw [if_neg (by simp)]
      refine run ?_
      intros
      rw [hB]; simp
set_option maxHeartbeats 8000000 in
theorem fpMay_7 (t v : List UInt8) (s : List (List UInt8)) (ks : List Fi.Fil) (hk : ∀ f ∈ ks, MayC f) (hw : Fi.wt (.mk 7 t v s ks) ≤ 1100000) : MayC (.mk 7 t v s ks) := by
  intro deep g left hd h0 h1
  have hw' := hw
  rw [Fi.wt] at hw'
  have w1 := wtL_len ks
  have w2 := subsW_len s
  rw [Fi.mayF_mk, Fi.cF_open]
  dsimp only [Fi.Fil.kind, Fi.Fil.typ, Fi.Fil.val, Fi.Fil.subs, Fi.Fil.kids]
  have c1 := dnType t
  have c2 := fpSubs s
  by_cases hout : left - 1 < 0 ∨ 16 ≤ deep
  · rw [if_pos hout]
    clear hk
    refine CallsC.of Tryz.call132 Tryz.func132 rfl Tryz.ntmps132 rfl fun w0 G0 S0 hs ho => ?_
    exact run trivial
  · rw [if_neg hout]
    have c3 := anyFil (f := 142) (Cs := [TPc [okI .i64 (deep : Int)], TPc [Is (pAt g 0)]]) ks (deep + 1) g (left - 1) (by omega) (by omega) (fun k hk' n n0 n1 => fpMay1 k (hk k hk') deep g n (by omega) n0 n1)
    clear hk
    have su := Sure.mk' [86, 87, 88, 89, 90]
    rw [Fi.mayH_7]
    have st := Stop.mk' 18
    refine CallsC.of Tryz.call132 Tryz.func132 rfl Tryz.ntmps132 rfl fun w0 G0 S0 hs ho => ?_
    refine run ?_
    intros
    refine HTs.mk ?_
    clear st
    cases hB : (Dn.typB t && decide (v = []) && decide ((s.length : Int) = 0) && decide ((ks.length : Int) = 0)) with
    | true =>
      rw [if_pos rfl]
      refine run ?_
      intros
      rw [hB]; simp
    | false =>
      rw [if_neg (by simp)]
      refine run ?_
      intros
      rw [hB]; simp
set_option maxHeartbeats 8000000 in
theorem fpMay_x (k : Int) (hkk : ¬ (k = 0 ∨ k = 1 ∨ k = 2) ∧ ¬ (k = 3 ∨ k = 5 ∨ k = 6) ∧ k ≠ 4 ∧ k ≠ 7) (t v : List UInt8) (s : List (List UInt8)) (ks : List Fi.Fil) (hk : ∀ f ∈ ks, MayC f) (hw : Fi.wt (.mk k t v s ks) ≤ 1100000) : MayC (.mk k t v s ks) := by
  intro deep g left hd h0 h1
  have hw' := hw
  rw [Fi.wt] at hw'
  have w1 := wtL_len ks
  have w2 := subsW_len s
  rw [Fi.mayF_mk, Fi.cF_open]
  dsimp only [Fi.Fil.kind, Fi.Fil.typ, Fi.Fil.val, Fi.Fil.subs, Fi.Fil.kids]
  have c1 := dnType t
  have c2 := fpSubs s
  by_cases hout : left - 1 < 0 ∨ 16 ≤ deep
  · rw [if_pos hout]
    clear hk
    refine CallsC.of Tryz.call132 Tryz.func132 rfl Tryz.ntmps132 rfl fun w0 G0 S0 hs ho => ?_
    exact run trivial
  · rw [if_neg hout]
    have c3 := anyFil (f := 142) (Cs := [TPc [okI .i64 (deep : Int)], TPc [Is (pAt g 0)]]) ks (deep + 1) g (left - 1) (by omega) (by omega) (fun k hk' n n0 n1 => fpMay1 k (hk k hk') deep g n (by omega) n0 n1)
    clear hk
    have su := Sure.mk' [86, 87, 88, 89, 90]
    rw [Fi.mayH_x hkk, if_neg (by simp)]
    clear c3 su
    refine CallsC.of Tryz.call132 Tryz.func132 rfl Tryz.ntmps132 rfl fun w0 G0 S0 hs ho => ?_
    exact run trivial
end Go.Proofs.YtkpghepeagafoaaGreat
set_option linter.unusedVariables false
set_option maxRecDepth 8000
set_option linter.unusedVariables false
namespace Go.Proofs.YtkpghepeagafoaaGreat
open Go.Vk
attribute [local irreducible] HT HX RegS RegA RegM OpP OpC AltT
attribute [local irreducible] Dn.typB Fi.mayF Fi.mayL Fi.mayIx Fi.badIx Fi.subsB
theorem fpMayS (k : Int) (t v : List UInt8) (s : List (List UInt8)) (ks : List Fi.Fil) (hk : ∀ f ∈ ks, MayC f) (hw : Fi.wt (.mk k t v s ks) ≤ 1100000) : MayC (.mk k t v s ks) := by
  by_cases k0 : k = 0
  · subst k0; exact fpMay_0 t v s ks hk hw
  by_cases k1 : k = 1
  · subst k1; exact fpMay_1 t v s ks hk hw
  by_cases k2 : k = 2
  · subst k2; exact fpMay_2 t v s ks hk hw
  by_cases k3 : k = 3
  · subst k3; exact fpMay_3 t v s ks hk hw
  by_cases k5 : k = 5
  · subst k5; exact fpMay_5 t v s ks hk hw
  by_cases k6 : k = 6
  · subst k6; exact fpMay_6 t v s ks hk hw
  by_cases k4 : k = 4
  · subst k4; exact fpMay_4 t v s ks hk hw
  by_cases k7 : k = 7
  · subst k7; exact fpMay_7 t v s ks hk hw
  · exact fpMay_x k (by omega) t v s ks hk hw
theorem fpMay : ∀ (N : Nat) (f : Fi.Fil), Fi.nodes f ≤ N → Fi.wt f ≤ 1100000 → MayC f
  | 0, f, h, _ => by have := Fi.nodes_pos f; omega
  | N + 1, .mk k t v s ks, h, hw => fpMayS k t v s ks (fun f hf => fpMay N f (by
      have := Fi.kid_nodes hf
      rw [Fi.nodes] at h; omega) (by
      have := wt_kid hf
      rw [Fi.wt] at hw; omega)) hw
theorem fpIs (f : Fi.Fil) (hw : Fi.wt f ≤ 1100000) : CFn Tryz.prog 110 [TAgg (Fi.cF f)] (Is (.bool (Fi.isF f))) := by
  have c1 := fun g => fpMay (Fi.nodes f) f (Nat.le_refl _) hw 0 g 64 (by decide) (by decide) (by decide)
  rw [Fi.may_isF] at c1
  refine CallsC.of Tryz.call110 Tryz.func110 rfl Tryz.ntmps110 rfl fun w0 G0 S0 hs ho => ?_
  exact run trivial
end Go.Proofs.YtkpghepeagafoaaGreat
set_option linter.unusedVariables false
namespace Go.Ms
open Go.Vk
open Go.Fi (Fil)
open Go.En (Attr)
structure Req where
  num : Int
  kind : Int
  dn : List UInt8
  pass : List UInt8
  scope : Int
  limit : Int
  fil : Fil
  want : List (List UInt8)
  mods : List Mod
  attrs : List Attr
  rdn : List UInt8
  keep : Bool
  above : Bool
  up : List UInt8
  avaT : List UInt8
  avaV : List UInt8
  which : Int
deriving DecidableEq
abbrev cReq (r : Req) : List Ty := [okI .i64 r.num, okI .i64 r.kind, Is (str r.dn), Is (str r.pass), okI .i64 r.scope, okI .i64 r.limit, okI .i64 r.fil.kind, Is (str r.fil.typ), Is (str r.fil.val), TSl 1 Fi.cS r.fil.subs, TSl 5 Fi.cF r.fil.kids, TSl 1 En.cS r.want, TSl 3 cMod r.mods, TSl 2 En.cAttr r.attrs, Is (str r.rdn), Is (.bool r.keep), Is (.bool r.above), Is (str r.up), Is (str r.avaT), Is (str r.avaV), okI .i64 r.which]
def zR : Req := ⟨0, 0, [], [], 0, 0, Fi.zeroF, [], [], [], [], false, false, [], [], [], 0⟩
instance : Inhabited Req := ⟨zR⟩
/-- What bounds a request. -/
structure Okr (r : Req) : Prop where
  num : okK r.num
  kind : okK r.kind
  scope : okK r.scope
  limit : okK r.limit
  which : okK r.which
  dn : r.dn.length ≤ 2000000
  pass : r.pass.length ≤ 2000000
  rdn : r.rdn.length ≤ 2000000
  up : r.up.length ≤ 2000000
  avaT : r.avaT.length ≤ 2000000
  avaV : r.avaV.length ≤ 2000000
  fil : wF r.fil ≤ 90000000
  want : sm wV r.want ≤ 90000000
  mods : sm wM r.mods ≤ 90000000
  attrs : sm wA r.attrs ≤ 90000000
  kinds : ∀ m ∈ r.mods, okK m.kind
  filw : Fi.wt r.fil ≤ 1100000
theorem subsW_sm : ∀ l : List (List UInt8), Fi.subsW l ≤ sm wV l
  | [] => by simp [Fi.subsW, sm]
  | s :: r => by
    have := subsW_sm r
    have h : wV s = s.length + 10 := rfl
    have e : sm wV (s :: r) = wV s + sm wV r := by unfold sm; rw [List.map_cons, List.sum_cons]
    rw [Fi.subsW, e]; omega
mutual
theorem wt_wF : ∀ f : Fil, Fi.wt f ≤ wF f
  | .mk k t v s ks => by
    have h1 := wtL_wF ks
    have h2 := subsW_sm s
    rw [Fi.wt]; unfold wF wVs; omega
theorem wtL_wF : ∀ l : List Fil, Fi.wtL l ≤ wFs l
  | [] => by rw [Fi.wtL]; omega
  | f :: r => by
    have h1 := wt_wF f
    have h2 := wtL_wF r
    rw [Fi.wtL]; unfold wFs; omega
end
theorem sm_nil {α : Type} (f : α → Nat) : sm f [] = 0 := rfl
theorem okK0 : okK 0 := by unfold okK; omega
theorem zR_ok : Okr zR := ⟨okK0, okK0, okK0, okK0, okK0, by decide, by decide, by decide, by decide, by decide, by decide, by decide, by decide, by decide, by decide, (by intro m h; cases h), by decide⟩
/-- A request without what its kind names. -/
def unnR (r : Req) : Req :=
  let k := r.kind
  ⟨0, 0, if k = 2 ∨ k = 16 then r.dn else [], if k = 0 then [] else r.pass, if k = 3 then 0 else r.scope, if k = 3 then 0 else r.limit, if k = 3 then Fi.zeroF else r.fil, if k = 3 then [] else r.want, if k = 6 then [] else r.mods, if k = 8 then [] else r.attrs, if k = 12 then [] else r.rdn, if k = 12 then false else r.keep, if k = 12 then false else r.above, if k = 12 then [] else r.up, if k = 14 then [] else r.avaT, if k = 14 then [] else r.avaV, if k = 16 then 0 else r.which⟩
theorem okr_unn {r : Req} (h : Okr r) : Okr (unnR r) := by
  obtain ⟨h1, h2, h3, h4, h5, h6, h7, h8, h9, h10, h11, h12, h13, h14, h15, h16, h17⟩ := h
  constructor <;> (unfold unnR; dsimp only; try split) <;> first | assumption | exact okK0 | decide | exact Nat.zero_le _ | (intro m hm; cases hm)
/-! ### may be -/
def isKindB (k : Int) : Bool := isIntZ k [0, 2, 3, 6, 8, 10, 12, 14, 16]
def numB (n m : Int) : Bool := decide (m ≤ n) && decide (n ≤ 2147483647)
def fewB {α : Type} (l : List α) : Bool := decide ((l.length : Int) ≤ 64)
def modOk (m : Mod) : Bool := decide (0 ≤ m.kind) && decide (m.kind ≤ 2) && fewB m.vals
def attrOk (a : Attr) : Bool := fewB a.vals
def soundB (r : Req) : Bool := isKindB r.kind && numB r.num 1 && decide (unnR r = zR) && (decide (0 ≤ r.scope) && decide (r.scope ≤ 2) && numB r.limit 0 && numB r.which 0) && (!decide (r.kind = 3) || Fi.isF r.fil) && (r.above || decide (r.up = [])) && (fewB r.want && fewB r.mods && fewB r.attrs) && (r.mods.all modOk && r.attrs.all attrOk)
end Go.Ms
set_option maxRecDepth 8000
set_option linter.unusedVariables false
namespace Go.Proofs.YtkpghepeagafoaaGreat
open Go.Vk
attribute [local irreducible] HT HX RegS RegA RegM OpP OpC AltT
attribute [local irreducible] Ber.tagB Ber.lenB Ber.intB Ms.textB Ms.wV Ms.wF Ms.filB Ms.piecesB Ms.tagF Fi.isF Fi.wt
set_option maxHeartbeats 4000000 in
theorem msUnnamed (r : Ms.Req) : CFn Tryz.prog 109 [TAgg (Ms.cReq r)] (TAgg (Ms.cReq (Ms.unnR r))) := by
  obtain ⟨num, kind, dn, pass, scope, limit, fil, want, mods, attrs, rdn, keep, above, up, avaT, avaV, which⟩ := r
  unfold Ms.unnR
  dsimp only
  by_cases h0 : kind = 0
  · subst h0
    simp only [reduceIte, Int.reduceEq, or_self, or_false, false_or]
    dsimp only [Ms.cReq]
    refine CallsC.of Tryz.call109 Tryz.func109 rfl Tryz.ntmps109 rfl fun w0 G0 S0 hs ho => ?_
    exact run trivial
  by_cases h2 : kind = 2
  · subst h2
    simp only [reduceIte, Int.reduceEq, or_self, or_false, false_or]
    dsimp only [Ms.cReq]
    refine CallsC.of Tryz.call109 Tryz.func109 rfl Tryz.ntmps109 rfl fun w0 G0 S0 hs ho => ?_
    exact run trivial
  by_cases h3 : kind = 3
  · subst h3
    simp only [reduceIte, Int.reduceEq, or_self, or_false, false_or]
    dsimp only [Ms.cReq]
    refine CallsC.of Tryz.call109 Tryz.func109 rfl Tryz.ntmps109 rfl fun w0 G0 S0 hs ho => ?_
    refine run ?_
    exact ⟨fun _ _ _ _ _ => rfl, fun _ _ _ _ _ => rfl, fun _ _ _ _ _ => rfl, fun _ _ _ _ _ => rfl, fun _ _ _ _ _ => rfl⟩
  by_cases h6 : kind = 6
  · subst h6
    simp only [reduceIte, Int.reduceEq, or_self, or_false, false_or]
    dsimp only [Ms.cReq]
    refine CallsC.of Tryz.call109 Tryz.func109 rfl Tryz.ntmps109 rfl fun w0 G0 S0 hs ho => ?_
    exact run trivial
  by_cases h8 : kind = 8
  · subst h8
    simp only [reduceIte, Int.reduceEq, or_self, or_false, false_or]
    dsimp only [Ms.cReq]
    refine CallsC.of Tryz.call109 Tryz.func109 rfl Tryz.ntmps109 rfl fun w0 G0 S0 hs ho => ?_
    exact run trivial
  by_cases h12 : kind = 12
  · subst h12
    simp only [reduceIte, Int.reduceEq, or_self, or_false, false_or]
    dsimp only [Ms.cReq]
    refine CallsC.of Tryz.call109 Tryz.func109 rfl Tryz.ntmps109 rfl fun w0 G0 S0 hs ho => ?_
    exact run trivial
  by_cases h14 : kind = 14
  · subst h14
    simp only [reduceIte, Int.reduceEq, or_self, or_false, false_or]
    dsimp only [Ms.cReq]
    refine CallsC.of Tryz.call109 Tryz.func109 rfl Tryz.ntmps109 rfl fun w0 G0 S0 hs ho => ?_
    exact run trivial
  by_cases h16 : kind = 16
  · subst h16
    simp only [reduceIte, Int.reduceEq, or_self, or_false, false_or]
    dsimp only [Ms.cReq]
    refine CallsC.of Tryz.call109 Tryz.func109 rfl Tryz.ntmps109 rfl fun w0 G0 S0 hs ho => ?_
    exact run trivial
  simp only [h0, h2, h3, h6, h8, h12, h14, h16, reduceIte, or_self]
  dsimp only [Ms.cReq]
  refine CallsC.of Tryz.call109 Tryz.func109 rfl Tryz.ntmps109 rfl fun w0 G0 S0 hs ho => ?_
  exact run trivial
end Go.Proofs.YtkpghepeagafoaaGreat
set_option linter.unusedVariables false
namespace Go.Ms
open Go.Vk
theorem mod_eq (a b : Mod) : decide (a = b) = (decide (a.kind = b.kind) && decide (a.typ = b.typ) && decide (a.vals = b.vals)) := by
  obtain ⟨a1, a2, a3⟩ := a
  obtain ⟨b1, b2, b3⟩ := b
  grind
theorem attr_eq (a b : En.Attr) : decide (a = b) = (decide (a.typ = b.typ) && decide (a.vals = b.vals)) := by
  obtain ⟨a1, a2⟩ := a
  obtain ⟨b1, b2⟩ := b
  grind
theorem req_eq (a b : Req) : decide (a = b) = (decide (a.num = b.num) && decide (a.kind = b.kind) && decide (a.dn = b.dn) && decide (a.pass = b.pass) && decide (a.scope = b.scope) && decide (a.limit = b.limit) && decide (a.fil = b.fil) && decide (a.want = b.want) && decide (a.rdn = b.rdn) && decide (a.keep = b.keep) && decide (a.above = b.above) && decide (a.up = b.up) && decide (a.avaT = b.avaT) && decide (a.avaV = b.avaV) && decide (a.which = b.which) && decide (a.attrs = b.attrs) && decide (a.mods = b.mods)) := by
  cases a; cases b
  rw [Bool.eq_iff_iff]
  simp only [Bool.and_eq_true, decide_eq_true_eq, Req.mk.injEq]
  constructor <;> (intro h; simp [h])
theorem wM_vals (m : Mod) : m.vals.length ≤ wM m := by
  have := sm_len wV_pos m.vals
  unfold wM wAt wVs; omega
theorem wA_vals (m : En.Attr) : m.vals.length ≤ wA m := by
  have := sm_len wV_pos m.vals
  unfold wA wAt wVs; omega
end Go.Ms
set_option maxRecDepth 8000
set_option linter.unusedVariables false
namespace Go.Proofs.YtkpghepeagafoaaGreat
open Go.Vk
attribute [local irreducible] HT HX RegS RegA RegM OpP OpC AltT
attribute [local irreducible] Ber.tagB Ber.lenB Ber.intB Ms.textB Ms.wV Ms.wF Ms.filB Ms.piecesB Ms.tagF Fi.isF Fi.wt Ms.wM Ms.wA
theorem msSameMod (a b : Ms.Mod) (h : a.vals.length ≤ 1000000000) : CFn Tryz.prog 131 [TAgg (Ms.cMod a), TAgg (Ms.cMod b)] (Is (.bool (decide (a = b)))) := by
  have c1 := txtEq16 a.vals b.vals (by omega)
  rw [Ms.mod_eq]
  refine CallsC.of Tryz.call131 Tryz.func131 rfl Tryz.ntmps131 rfl fun w0 G0 S0 hs ho => ?_
  exact run trivial
theorem msSameAttr (a b : En.Attr) (h : a.vals.length ≤ 1000000000) : CFn Tryz.prog 129 [TAgg (En.cAttr a), TAgg (En.cAttr b)] (Is (.bool (decide (a = b)))) := by
  have c1 := txtEq16 a.vals b.vals (by omega)
  rw [Ms.attr_eq]
  refine CallsC.of Tryz.call129 Tryz.func129 rfl Tryz.ntmps129 rfl fun w0 G0 S0 hs ho => ?_
  exact run trivial
set_option maxHeartbeats 8000000 in
theorem msSame (a b : Ms.Req) (ha : Ms.Okr a) : CFn Tryz.prog 108 [TAgg (Ms.cReq a), TAgg (Ms.cReq b)] (Is (.bool (decide (a = b)))) := by
  have h1 := ha.filw
  have h2 := ha.want
  have h3 := ha.mods
  have h4 := ha.attrs
  have c1 := fpSame (Fi.nodes a.fil) a.fil (Nat.le_refl _) h1 b.fil
  rw [Fi.cF_open a.fil, Fi.cF_open b.fil] at c1
  have c2 := txtEq16 a.want b.want (by have := Ms.sm_len Ms.wV_pos a.want; omega)
  have c3 := modEq (f := 131) (Cs := []) a.mods b.mods (by have := Ms.sm_len Ms.wM_pos a.mods; omega) (fun x hx y => msSameMod x y (by have := Ms.wM_vals x; have := Ms.sm_mem (f := Ms.wM) hx; omega))
  have c4 := attrEq (f := 129) (Cs := []) a.attrs b.attrs (by have := Ms.sm_len Ms.wA_pos a.attrs; omega) (fun x hx y => msSameAttr x y (by have := Ms.wA_vals x; have := Ms.sm_mem (f := Ms.wA) hx; omega))
  rw [Ms.req_eq]
  clear h1 h2 h3 h4 ha
  refine CallsC.of Tryz.call108 Tryz.func108 rfl Tryz.ntmps108 rfl fun w0 G0 S0 hs ho => ?_
  refine run ?_
  refine ⟨fun h => ?_, fun _ h => ?_, fun h1 h2 => ?_⟩
  · symm
    rw [← Bool.not_eq_true]
    simp only [Bool.and_eq_true, decide_eq_true_eq]
    intro e
    simp [e] at h
  · symm
    rw [← Bool.not_eq_true]
    simp only [Bool.and_eq_true, decide_eq_true_eq]
    intro e
    simp [e, allB] at h
  · simp only [allB, ne_eq, Decidable.not_not, bne_eq_false_iff_eq, Bool.and_eq_true, Bool.and_true, decide_eq_true_eq] at h1 h2
    simp only [h1, h2, decide_true, Bool.true_and]
theorem msSound1 (m : Ms.Mod) : CFn Tryz.prog 115 [TAgg (Ms.cMod m)] (Is (.bool (!Ms.modOk m))) := by
  have c1 := msFewS m.vals
  unfold Ms.modOk Ms.fewB
  refine CallsC.of Tryz.call115 Tryz.func115 rfl Tryz.ntmps115 rfl fun w0 G0 S0 hs ho => ?_
  refine run ?_
  grind
theorem msSound2 (a : En.Attr) : CFn Tryz.prog 117 [TAgg (En.cAttr a)] (Is (.bool (!Ms.attrOk a))) := by
  have c1 := msFewS a.vals
  unfold Ms.attrOk Ms.fewB
  refine CallsC.of Tryz.call117 Tryz.func117 rfl Tryz.ntmps117 rfl fun w0 G0 S0 hs ho => ?_
  exact run trivial
set_option maxHeartbeats 8000000 in
theorem msSound (r : Ms.Req) (ha : Ms.Okr r) : CFn Tryz.prog 96 [TAgg (Ms.cReq r)] (Is (.bool (Ms.soundB r))) := by
  have h1 := ha.filw
  have h3 := ha.mods
  have h4 := ha.attrs
  have c1 := msUnnamed r
  have c2 : CFn Tryz.prog 108 [TAgg (Ms.cReq (Ms.unnR r)), TAgg (Ms.zReq 0 0)] (Is (.bool (decide (Ms.unnR r = Ms.zR)))) := by
    have h := msSame (Ms.unnR r) Ms.zR (Ms.okr_unn ha)
    have e : Ms.cReq Ms.zR = [okI .i64 0, okI .i64 0, Is (str []), Is (str []), okI .i64 0, okI .i64 0, okI .i64 0, Is (str []), Is (str []), TSl 1 Fi.cS [], TSl 5 Fi.cF [], TSl 1 En.cS [], TSl 3 Ms.cMod [], TSl 2 En.cAttr [], Is (str []), Is (.bool false), Is (.bool false), Is (str []), Is (str []), Is (str []), okI .i64 0] := rfl
    rw [e] at h
    exact CFn.sub h ⟨Sub.refl _, Sub.agg ⟨Sub.refl _, Sub.refl _, Sub.refl _, Sub.refl _, Sub.refl _, Sub.refl _, Sub.refl _, Sub.refl _, Sub.refl _, Sub.nil _ _, Sub.nil _ _, Sub.nil _ _, Sub.nil _ _, Sub.nil _ _, Sub.refl _, Sub.refl _, Sub.refl _, Sub.refl _, Sub.refl _, Sub.refl _, Sub.refl _, trivial⟩, trivial⟩
  have c3 : CFn Tryz.prog 107 [okI .i64 r.kind] (Is (.bool (Ms.isKindB r.kind))) := msIsKind r.kind
  have c4 : ∀ n m : Int, CFn Tryz.prog 93 [okI .i64 n, okI .i64 m] (Is (.bool (Ms.numB n m))) := msIsNum
  have c5 := fpIs r.fil h1
  rw [Fi.cF_open r.fil] at c5
  have c6 : CFn Tryz.prog 111 [TSl 1 En.cS r.want] (Is (.bool (Ms.fewB r.want))) := msFewS r.want
  have c7 : CFn Tryz.prog 112 [TSl 3 Ms.cMod r.mods] (Is (.bool (Ms.fewB r.mods))) := msFewM r.mods
  have c8 : CFn Tryz.prog 113 [TSl 2 En.cAttr r.attrs] (Is (.bool (Ms.fewB r.attrs))) := msFewA r.attrs
  have c9 := anyMod (f := 115) (Cs := []) r.mods (fun m => !Ms.modOk m) (by have := Ms.sm_len Ms.wM_pos r.mods; omega) (fun x hx => msSound1 x)
  have c10 := anyAttr (f := 117) (Cs := []) r.attrs (fun m => !Ms.attrOk m) (by have := Ms.sm_len Ms.wA_pos r.attrs; omega) (fun x hx => msSound2 x)
  clear h1 h3 h4 ha
  unfold Ms.soundB
  refine CallsC.of Tryz.call96 Tryz.func96 rfl Tryz.ntmps96 rfl fun w0 G0 S0 hs ho => ?_
  refine run ?_
  have e1 : (!r.mods.any fun m => !Ms.modOk m) = r.mods.all Ms.modOk := List.all_eq_not_any_not.symm
  have e2 : (!r.attrs.any fun m => !Ms.attrOk m) = r.attrs.all Ms.attrOk := List.all_eq_not_any_not.symm
  rw [e1, e2]
  and_intros
  all_goals intros
  all_goals grind
end Go.Proofs.YtkpghepeagafoaaGreat
set_option linter.unusedVariables false
namespace Go.Ms
open Go.Vk
def boolB (b : Bool) : List UInt8 := [if b then 255 else 0]
def renB (r : Req) : List (List UInt8) := [textB r.dn, textB r.rdn, Ber.tagB 1 [boolB (!r.keep)]] ++ (if r.above = true then [Ber.tagB 128 [r.up]] else [])
/-- What a request asks, as bytes. -/
def opB (r : Req) : List UInt8 :=
  if r.kind = 0 then Ber.tagB 96 [Ber.tagB 2 [Ber.intB 3], textB r.dn, Ber.tagB 128 [r.pass]]
  else if r.kind = 3 then Ber.tagB 99 [textB r.dn, Ber.tagB 10 [Ber.intB r.scope], Ber.tagB 10 [Ber.intB 0], Ber.tagB 2 [Ber.intB r.limit], Ber.tagB 2 [Ber.intB 0], Ber.tagB 1 [boolB false], filB r.fil, textsB 48 r.want]
  else if r.kind = 6 then Ber.tagB 102 [textB r.dn, modsB r.mods]
  else if r.kind = 8 then Ber.tagB 104 [textB r.dn, attrsB r.attrs]
  else if r.kind = 10 then Ber.tagB 74 [r.dn]
  else if r.kind = 12 then Ber.tagB 108 (renB r)
  else if r.kind = 14 then Ber.tagB 110 [textB r.dn, Ber.tagB 48 [textB r.avaT, textB r.avaV]]
  else if r.kind = 16 then Ber.tagB 80 [Ber.intB r.which]
  else Ber.tagB 66 []
def reqB (r : Req) : List UInt8 := Ber.tagB 48 [Ber.tagB 2 [Ber.intB r.num], opB r]
/-- May a request be? -/
def isR (r : Req) : Bool := soundB r && decide ((reqB r).length ≤ 65536)
theorem textB_le' (s : List UInt8) : (textB s).length ≤ s.length + 10 := textB_le s
theorem intB_le' {n : Int} (h : okK n) : (Ber.intB n).length ≤ 8 := (Ber.intB_len n h).2
theorem tag1_le (t : UInt8) (a : List UInt8) : (Ber.tagB t [a]).length ≤ a.length + 10 := by
  have := tagB_le t [a]
  rwa [Ber.tot_one] at this
theorem attrsB_le (l : List En.Attr) : (attrsB l).length ≤ sm wA l + 10 := by
  have h1 := tagB_le 48 (l.map attrB)
  have h2 := tot_map attrB_le l
  unfold attrsB; omega
theorem modsB_le {l : List Mod} (h : ∀ m ∈ l, okK m.kind) : (modsB l).length ≤ sm wM l + 10 := by
  have h1 := tagB_le 48 (l.map modB)
  have h2 := tot_mem (f := wM) (g := modB) l (fun a ha => modB_le (h a ha))
  unfold modsB; omega
theorem boolB_len (b : Bool) : (boolB b).length = 1 := rfl
theorem opB_le {r : Req} (ha : Okr r) : (opB r).length ≤ 300000000 := by
  obtain ⟨num, kind, dn, pass, scope, limit, fil, want, mods, attrs, rdn, keep, above, up, avaT, avaV, which⟩ := r
  obtain ⟨o1, o2, o3, o4, o5, o6, o7, o8, o9, o10, o11, o12, o13, o14, o15, o16, o17⟩ := ha
  dsimp only at o1 o2 o3 o4 o5 o6 o7 o8 o9 o10 o11 o12 o13 o14 o15 o16 o17
  unfold opB renB
  dsimp only
  have l1 := Ms.textB_le' dn
  split
  · have h1 := tagB_le 96 [Ber.tagB 2 [Ber.intB 3], textB dn, Ber.tagB 128 [pass]]
    have l2 := tag1_le 2 (Ber.intB 3)
    have l3 := tag1_le 128 pass
    have l4 := intB_le' (n := 3) (by unfold okK; omega)
    rw [tot_cons, tot_cons, tot_cons, tot_nil] at h1
    omega
  split
  · have h1 := tagB_le 99 [textB dn, Ber.tagB 10 [Ber.intB scope], Ber.tagB 10 [Ber.intB 0], Ber.tagB 2 [Ber.intB limit], Ber.tagB 2 [Ber.intB 0], Ber.tagB 1 [boolB false], filB fil, textsB 48 want]
    have l2 := tag1_le 10 (Ber.intB scope)
    have l3 := tag1_le 10 (Ber.intB 0)
    have l4 := tag1_le 2 (Ber.intB limit)
    have l5 := tag1_le 2 (Ber.intB 0)
    have l6 := tag1_le 1 (boolB false)
    have l7 := intB_le' o3
    have l8 := intB_le' o4
    have l9 := intB_le' okK0
    have l10 := boolB_len false
    have l11 := filB_le fil
    have l12 := textsB_le 48 want
    have l13 : wVs want = sm wV want + 10 := rfl
    rw [tot_cons, tot_cons, tot_cons, tot_cons, tot_cons, tot_cons, tot_cons, tot_cons, tot_nil] at h1
    omega
  split
  · have h1 := tagB_le 102 [textB dn, modsB mods]
    have l2 := modsB_le o16
    rw [tot_cons, tot_cons, tot_nil] at h1
    omega
  split
  · have h1 := tagB_le 104 [textB dn, attrsB attrs]
    have l2 := attrsB_le attrs
    rw [tot_cons, tot_cons, tot_nil] at h1
    omega
  split
  · have h1 := tag1_le 74 dn
    omega
  split
  · have h1 := tagB_le 108 ([textB dn, textB rdn, Ber.tagB 1 [boolB (!keep)]] ++ (if above = true then [Ber.tagB 128 [up]] else []))
    have l2 := textB_le' rdn
    have l3 := tag1_le 1 (boolB (!keep))
    have l4 := boolB_len (!keep)
    have l5 := tag1_le 128 up
    have l6 : Ber.tot (if above = true then [Ber.tagB 128 [up]] else []) ≤ (Ber.tagB 128 [up]).length := by
      split
      · rw [Ber.tot_one]; omega
      · rw [tot_nil]; omega
    rw [Ber.tot_append, tot_cons, tot_cons, tot_cons, tot_nil] at h1
    omega
  split
  · have h1 := tagB_le 110 [textB dn, Ber.tagB 48 [textB avaT, textB avaV]]
    have h2 := tagB_le 48 [textB avaT, textB avaV]
    have l2 := textB_le' avaT
    have l3 := textB_le' avaV
    rw [tot_cons, tot_cons, tot_nil] at h1 h2
    omega
  split
  · have h1 := tag1_le 80 (Ber.intB which)
    have l2 := intB_le' o5
    omega
  · have h1 := tagB_le 66 []
    rw [tot_nil] at h1
    omega
theorem isKindB_iff {k : Int} : isKindB k = true ↔ k = 0 ∨ k = 2 ∨ k = 3 ∨ k = 6 ∨ k = 8 ∨ k = 10 ∨ k = 12 ∨ k = 14 ∨ k = 16 := by
  unfold isKindB isIntZ
  simp
theorem soundB_iff {r : Req} (h : soundB r = true) : isKindB r.kind = true ∧ (r.kind = 3 → Fi.isF r.fil = true) := by
  unfold soundB at h
  simp only [Bool.and_eq_true, Bool.or_eq_true, Bool.not_eq_true', decide_eq_true_eq, decide_eq_false_iff_not] at h
  refine ⟨h.1.1.1.1.1.1.1, fun hk => ?_⟩
  rcases h.1.1.1.2 with h | h
  · exact absurd hk h
  · exact h
end Go.Ms
set_option maxRecDepth 8000
set_option linter.unusedVariables false
namespace Go.Proofs.YtkpghepeagafoaaGreat
open Go.Vk
attribute [local irreducible] HT HX RegS RegA RegM OpP OpC AltT
attribute [local irreducible] Ber.tagB Ber.lenB Ber.intB Ms.textB Ms.wV Ms.wF Ms.filB Ms.piecesB Ms.tagF Fi.isF Fi.wt Ms.wM Ms.wA Ms.textsB Ms.modsB Ms.attrsB
set_option maxHeartbeats 8000000 in
theorem msOp0 (r : Ms.Req) (ha : Ms.Okr r) (hk : r.kind = 0) : CFn Tryz.prog 99 [TAgg (Ms.cReq r)] (TBytes (Ms.opB r)) := by
  obtain ⟨num, kind, dn, pass, scope, limit, fil, want, mods, attrs, rdn, keep, above, up, avaT, avaV, which⟩ := r
  dsimp only at hk
  subst hk
  obtain ⟨o1, o2, o3, o4, o5, o6, o7, o8, o9, o10, o11, o12, o13, o14, o15, o16, o17⟩ := ha
  dsimp only at o1 o2 o3 o4 o5 o6 o7 o8 o9 o10 o11 o12 o13 o14 o15 o16 o17
  have e : Ms.opB ⟨num, 0, dn, pass, scope, limit, fil, want, mods, attrs, rdn, keep, above, up, avaT, avaV, which⟩ = Ber.tagB 96 [Ber.tagB 2 [Ber.intB 3], Ms.textB dn, Ber.tagB 128 [pass]] := rfl
  rw [e]
  dsimp only [Ms.cReq]
  have cN := msText' dn (by omega)
  have lN := Ms.textB_le' dn
  have c1 := int 3 (by decide)
  have l1 := Ms.intB_le' (n := 3) (by unfold Ms.okK; omega)
  have l2 := Ms.tag1_le 2 (Ber.intB 3)
  have l3 := Ms.tag1_le 128 pass
  have c2 : CFn Tryz.prog 97 [okI .u8 2, TSlX 1 (fun ts : List Ty => ts) [[TBytes (Ber.intB 3)]]] (TBytes (Ber.tagB 2 [Ber.intB 3])) := CFn.sub (tagO 2 [Ber.intB 3] (by rw [Ms.tot_cons, Ms.tot_nil]; omega) (by simp)).justFn (by exact byQ)
  have c3 : CFn Tryz.prog 97 [okI .u8 128, TSlX 1 (fun ts : List Ty => ts) [[TBytes (pass)]]] (TBytes (Ber.tagB 128 [pass])) := CFn.sub (tagO 128 [pass] (by rw [Ms.tot_cons, Ms.tot_nil]; omega) (by simp)).justFn (by exact byQ)
  have c4 : CFn Tryz.prog 97 [okI .u8 ((b8 96 ||| b8 0).toNat : Int), TSlX 1 (fun ts : List Ty => ts) [[TBytes (Ber.tagB 2 [Ber.intB 3])], [TBytes (Ms.textB dn)], [TBytes (Ber.tagB 128 [pass])]]] (TBytes (Ber.tagB 96 [Ber.tagB 2 [Ber.intB 3], Ms.textB dn, Ber.tagB 128 [pass]])) := by
    rw [show (b8 96 ||| b8 0) = (96 : UInt8) by decide +kernel]
    exact CFn.sub (tagO 96 [Ber.tagB 2 [Ber.intB 3], Ms.textB dn, Ber.tagB 128 [pass]] (by rw [Ms.tot_cons, Ms.tot_cons, Ms.tot_cons, Ms.tot_nil]; omega) (by simp)).justFn (by exact byQ)
  clear o1 o2 o3 o4 o5 o12 o13 o14 o15 o16 o17 e
  refine CallsC.of Tryz.call99 Tryz.func99 rfl Tryz.ntmps99 rfl fun w0 G0 S0 hs ho => ?_
  exact run trivial
set_option maxHeartbeats 8000000 in
theorem msOp3 (r : Ms.Req) (ha : Ms.Okr r) (hk : r.kind = 3) (hp : Ms.Prf r.fil) : CFn Tryz.prog 99 [TAgg (Ms.cReq r)] (TBytes (Ms.opB r)) := by
  obtain ⟨num, kind, dn, pass, scope, limit, fil, want, mods, attrs, rdn, keep, above, up, avaT, avaV, which⟩ := r
  dsimp only at hk
  subst hk
  obtain ⟨o1, o2, o3, o4, o5, o6, o7, o8, o9, o10, o11, o12, o13, o14, o15, o16, o17⟩ := ha
  dsimp only at o1 o2 o3 o4 o5 o6 o7 o8 o9 o10 o11 o12 o13 o14 o15 o16 o17
  have e : Ms.opB ⟨num, 3, dn, pass, scope, limit, fil, want, mods, attrs, rdn, keep, above, up, avaT, avaV, which⟩ = Ber.tagB 99 [Ms.textB dn, Ber.tagB 10 [Ber.intB scope], Ber.tagB 10 [Ber.intB 0], Ber.tagB 2 [Ber.intB limit], Ber.tagB 2 [Ber.intB 0], Ber.tagB 1 [Ms.boolB false], Ms.filB fil, Ms.textsB 48 want] := rfl
  rw [e]
  dsimp only [Ms.cReq]
  have cN := msText' dn (by omega)
  have lN := Ms.textB_le' dn
  have c1 := int 0 (by decide)
  have c2 := int scope o3
  have c3 := int limit o4
  have l1 := Ms.intB_le' (n := 0) (by unfold Ms.okK; omega)
  have l2 := Ms.intB_le' o3
  have l3 := Ms.intB_le' o4
  have cb : CFn Tryz.prog 120 [Is (.bool false)] (TBytes (Ms.boolB false)) := bool false
  have lb := Ms.boolB_len false
  have cf := msFilters fil (by omega) hp
  rw [Fi.cF_open fil] at cf
  have lf := Ms.filB_le fil
  have cw := msTexts 48 want (by omega)
  have lw := Ms.textsB_le 48 want
  have lw' : Ms.wVs want = Ms.sm Ms.wV want + 10 := rfl
  have q0 := Ms.tag1_le 10 (Ber.intB scope)
  have q1 := Ms.tag1_le 10 (Ber.intB 0)
  have q2 := Ms.tag1_le 2 (Ber.intB limit)
  have q3 := Ms.tag1_le 2 (Ber.intB 0)
  have q4 := Ms.tag1_le 1 (Ms.boolB false)
  have d1 : CFn Tryz.prog 97 [okI .u8 10, TSlX 1 (fun ts : List Ty => ts) [[TBytes (Ber.intB scope)]]] (TBytes (Ber.tagB 10 [Ber.intB scope])) := CFn.sub (tagO 10 [Ber.intB scope] (by rw [Ms.tot_cons, Ms.tot_nil]; omega) (by simp)).justFn (by exact byQ)
  have d2 : CFn Tryz.prog 97 [okI .u8 10, TSlX 1 (fun ts : List Ty => ts) [[TBytes (Ber.intB 0)]]] (TBytes (Ber.tagB 10 [Ber.intB 0])) := CFn.sub (tagO 10 [Ber.intB 0] (by rw [Ms.tot_cons, Ms.tot_nil]; omega) (by simp)).justFn (by exact byQ)
  have d3 : CFn Tryz.prog 97 [okI .u8 2, TSlX 1 (fun ts : List Ty => ts) [[TBytes (Ber.intB limit)]]] (TBytes (Ber.tagB 2 [Ber.intB limit])) := CFn.sub (tagO 2 [Ber.intB limit] (by rw [Ms.tot_cons, Ms.tot_nil]; omega) (by simp)).justFn (by exact byQ)
  have d4 : CFn Tryz.prog 97 [okI .u8 2, TSlX 1 (fun ts : List Ty => ts) [[TBytes (Ber.intB 0)]]] (TBytes (Ber.tagB 2 [Ber.intB 0])) := CFn.sub (tagO 2 [Ber.intB 0] (by rw [Ms.tot_cons, Ms.tot_nil]; omega) (by simp)).justFn (by exact byQ)
  have d5 : CFn Tryz.prog 97 [okI .u8 1, TSlX 1 (fun ts : List Ty => ts) [[TBytes (Ms.boolB false)]]] (TBytes (Ber.tagB 1 [Ms.boolB false])) := CFn.sub (tagO 1 [Ms.boolB false] (by rw [Ms.tot_cons, Ms.tot_nil]; omega) (by simp)).justFn (by exact byQ)
  have d6 : CFn Tryz.prog 97 [okI .u8 ((b8 96 ||| b8 3).toNat : Int), TSlX 1 (fun ts : List Ty => ts) [[TBytes (Ms.textB dn)], [TBytes (Ber.tagB 10 [Ber.intB scope])], [TBytes (Ber.tagB 10 [Ber.intB 0])], [TBytes (Ber.tagB 2 [Ber.intB limit])], [TBytes (Ber.tagB 2 [Ber.intB 0])], [TBytes (Ber.tagB 1 [Ms.boolB false])], [TBytes (Ms.filB fil)], [TBytes (Ms.textsB 48 want)]]] (TBytes (Ber.tagB 99 [Ms.textB dn, Ber.tagB 10 [Ber.intB scope], Ber.tagB 10 [Ber.intB 0], Ber.tagB 2 [Ber.intB limit], Ber.tagB 2 [Ber.intB 0], Ber.tagB 1 [Ms.boolB false], Ms.filB fil, Ms.textsB 48 want])) := by
    rw [show (b8 96 ||| b8 3) = (99 : UInt8) by decide +kernel]
    exact CFn.sub (tagO 99 [Ms.textB dn, Ber.tagB 10 [Ber.intB scope], Ber.tagB 10 [Ber.intB 0], Ber.tagB 2 [Ber.intB limit], Ber.tagB 2 [Ber.intB 0], Ber.tagB 1 [Ms.boolB false], Ms.filB fil, Ms.textsB 48 want] (by rw [Ms.tot_cons, Ms.tot_cons, Ms.tot_cons, Ms.tot_cons, Ms.tot_cons, Ms.tot_cons, Ms.tot_cons, Ms.tot_cons, Ms.tot_nil]; omega) (by simp)).justFn (by exact byQ)
  clear o1 o2 o3 o4 o5 o12 o13 o14 o15 o16 o17 e
  refine CallsC.of Tryz.call99 Tryz.func99 rfl Tryz.ntmps99 rfl fun w0 G0 S0 hs ho => ?_
  exact run trivial
set_option maxHeartbeats 8000000 in
theorem msOp6 (r : Ms.Req) (ha : Ms.Okr r) (hk : r.kind = 6) : CFn Tryz.prog 99 [TAgg (Ms.cReq r)] (TBytes (Ms.opB r)) := by
  obtain ⟨num, kind, dn, pass, scope, limit, fil, want, mods, attrs, rdn, keep, above, up, avaT, avaV, which⟩ := r
  dsimp only at hk
  subst hk
  obtain ⟨o1, o2, o3, o4, o5, o6, o7, o8, o9, o10, o11, o12, o13, o14, o15, o16, o17⟩ := ha
  dsimp only at o1 o2 o3 o4 o5 o6 o7 o8 o9 o10 o11 o12 o13 o14 o15 o16 o17
  have e : Ms.opB ⟨num, 6, dn, pass, scope, limit, fil, want, mods, attrs, rdn, keep, above, up, avaT, avaV, which⟩ = Ber.tagB 102 [Ms.textB dn, Ms.modsB mods] := rfl
  rw [e]
  dsimp only [Ms.cReq]
  have cN := msText' dn (by omega)
  have lN := Ms.textB_le' dn
  have c1 := msMods mods (by omega) o16
  have l1 := Ms.modsB_le o16
  have c2 : CFn Tryz.prog 97 [okI .u8 ((b8 96 ||| b8 6).toNat : Int), TSlX 1 (fun ts : List Ty => ts) [[TBytes (Ms.textB dn)], [TBytes (Ms.modsB mods)]]] (TBytes (Ber.tagB 102 [Ms.textB dn, Ms.modsB mods])) := by
    rw [show (b8 96 ||| b8 6) = (102 : UInt8) by decide +kernel]
    exact CFn.sub (tagO 102 [Ms.textB dn, Ms.modsB mods] (by rw [Ms.tot_cons, Ms.tot_cons, Ms.tot_nil]; omega) (by simp)).justFn (by exact byQ)
  clear o1 o2 o3 o4 o5 o12 o13 o14 o15 o16 o17 e
  refine CallsC.of Tryz.call99 Tryz.func99 rfl Tryz.ntmps99 rfl fun w0 G0 S0 hs ho => ?_
  exact run trivial
set_option maxHeartbeats 8000000 in
theorem msOp8 (r : Ms.Req) (ha : Ms.Okr r) (hk : r.kind = 8) : CFn Tryz.prog 99 [TAgg (Ms.cReq r)] (TBytes (Ms.opB r)) := by
  obtain ⟨num, kind, dn, pass, scope, limit, fil, want, mods, attrs, rdn, keep, above, up, avaT, avaV, which⟩ := r
  dsimp only at hk
  subst hk
  obtain ⟨o1, o2, o3, o4, o5, o6, o7, o8, o9, o10, o11, o12, o13, o14, o15, o16, o17⟩ := ha
  dsimp only at o1 o2 o3 o4 o5 o6 o7 o8 o9 o10 o11 o12 o13 o14 o15 o16 o17
  have e : Ms.opB ⟨num, 8, dn, pass, scope, limit, fil, want, mods, attrs, rdn, keep, above, up, avaT, avaV, which⟩ = Ber.tagB 104 [Ms.textB dn, Ms.attrsB attrs] := rfl
  rw [e]
  dsimp only [Ms.cReq]
  have cN := msText' dn (by omega)
  have lN := Ms.textB_le' dn
  have c1 := msAttrs attrs (by omega)
  have l1 := Ms.attrsB_le attrs
  have c2 : CFn Tryz.prog 97 [okI .u8 ((b8 96 ||| b8 8).toNat : Int), TSlX 1 (fun ts : List Ty => ts) [[TBytes (Ms.textB dn)], [TBytes (Ms.attrsB attrs)]]] (TBytes (Ber.tagB 104 [Ms.textB dn, Ms.attrsB attrs])) := by
    rw [show (b8 96 ||| b8 8) = (104 : UInt8) by decide +kernel]
    exact CFn.sub (tagO 104 [Ms.textB dn, Ms.attrsB attrs] (by rw [Ms.tot_cons, Ms.tot_cons, Ms.tot_nil]; omega) (by simp)).justFn (by exact byQ)
  clear o1 o2 o3 o4 o5 o12 o13 o14 o15 o16 o17 e
  refine CallsC.of Tryz.call99 Tryz.func99 rfl Tryz.ntmps99 rfl fun w0 G0 S0 hs ho => ?_
  exact run trivial
set_option maxHeartbeats 8000000 in
theorem msOp10 (r : Ms.Req) (ha : Ms.Okr r) (hk : r.kind = 10) : CFn Tryz.prog 99 [TAgg (Ms.cReq r)] (TBytes (Ms.opB r)) := by
  obtain ⟨num, kind, dn, pass, scope, limit, fil, want, mods, attrs, rdn, keep, above, up, avaT, avaV, which⟩ := r
  dsimp only at hk
  subst hk
  obtain ⟨o1, o2, o3, o4, o5, o6, o7, o8, o9, o10, o11, o12, o13, o14, o15, o16, o17⟩ := ha
  dsimp only at o1 o2 o3 o4 o5 o6 o7 o8 o9 o10 o11 o12 o13 o14 o15 o16 o17
  have e : Ms.opB ⟨num, 10, dn, pass, scope, limit, fil, want, mods, attrs, rdn, keep, above, up, avaT, avaV, which⟩ = Ber.tagB 74 [dn] := rfl
  rw [e]
  dsimp only [Ms.cReq]
  have cN := msText' dn (by omega)
  have lN := Ms.textB_le' dn
  have c2 : CFn Tryz.prog 97 [okI .u8 74, TSlX 1 (fun ts : List Ty => ts) [[TBytes (dn)]]] (TBytes (Ber.tagB 74 [dn])) := CFn.sub (tagO 74 [dn] (by rw [Ms.tot_cons, Ms.tot_nil]; omega) (by simp)).justFn (by exact byQ)
  clear o1 o2 o3 o4 o5 o12 o13 o14 o15 o16 o17 e
  refine CallsC.of Tryz.call99 Tryz.func99 rfl Tryz.ntmps99 rfl fun w0 G0 S0 hs ho => ?_
  exact run trivial
set_option maxHeartbeats 8000000 in
theorem msOp12 (r : Ms.Req) (ha : Ms.Okr r) (hk : r.kind = 12) : CFn Tryz.prog 99 [TAgg (Ms.cReq r)] (TBytes (Ms.opB r)) := by
  obtain ⟨num, kind, dn, pass, scope, limit, fil, want, mods, attrs, rdn, keep, above, up, avaT, avaV, which⟩ := r
  dsimp only at hk
  subst hk
  obtain ⟨o1, o2, o3, o4, o5, o6, o7, o8, o9, o10, o11, o12, o13, o14, o15, o16, o17⟩ := ha
  dsimp only at o1 o2 o3 o4 o5 o6 o7 o8 o9 o10 o11 o12 o13 o14 o15 o16 o17
  have e : Ms.opB ⟨num, 12, dn, pass, scope, limit, fil, want, mods, attrs, rdn, keep, above, up, avaT, avaV, which⟩ = Ber.tagB 108 (Ms.renB ⟨num, 12, dn, pass, scope, limit, fil, want, mods, attrs, rdn, keep, above, up, avaT, avaV, which⟩) := rfl
  rw [e]
  dsimp only [Ms.cReq]
  have cN := msText' dn (by omega)
  have lN := Ms.textB_le' dn
  have c1 := msText' rdn (by omega)
  have l1 := Ms.textB_le' rdn
  have cb : CFn Tryz.prog 120 [Is (.bool (!keep))] (TBytes (Ms.boolB (!keep))) := bool (!keep)
  have lb := Ms.boolB_len (!keep)
  have q1 := Ms.tag1_le 1 (Ms.boolB (!keep))
  have q2 := Ms.tag1_le 128 up
  have d1 : CFn Tryz.prog 97 [okI .u8 1, TSlX 1 (fun ts : List Ty => ts) [[TBytes (Ms.boolB (!keep))]]] (TBytes (Ber.tagB 1 [Ms.boolB (!keep)])) := CFn.sub (tagO 1 [Ms.boolB (!keep)] (by rw [Ms.tot_cons, Ms.tot_nil]; omega) (by simp)).justFn (by exact byQ)
  cases above with
  | false =>
    have e2 : Ms.renB ⟨num, 12, dn, pass, scope, limit, fil, want, mods, attrs, rdn, keep, false, up, avaT, avaV, which⟩ = [Ms.textB dn, Ms.textB rdn, Ber.tagB 1 [Ms.boolB (!keep)]] := rfl
    rw [e2]
    have d2 : CFn Tryz.prog 97 [okI .u8 ((b8 96 ||| b8 12).toNat : Int), TSlX 1 (fun ts : List Ty => ts) [[TBytes (Ms.textB dn)], [TBytes (Ms.textB rdn)], [TBytes (Ber.tagB 1 [Ms.boolB (!keep)])]]] (TBytes (Ber.tagB 108 [Ms.textB dn, Ms.textB rdn, Ber.tagB 1 [Ms.boolB (!keep)]])) := by
      rw [show (b8 96 ||| b8 12) = (108 : UInt8) by decide +kernel]
      exact CFn.sub (tagO 108 [Ms.textB dn, Ms.textB rdn, Ber.tagB 1 [Ms.boolB (!keep)]] (by rw [Ms.tot_cons, Ms.tot_cons, Ms.tot_cons, Ms.tot_nil]; omega) (by simp)).justFn (by exact byQ)
    clear o1 o2 o3 o4 o5 o12 o13 o14 o15 o16 o17 e e2
    refine CallsC.of Tryz.call99 Tryz.func99 rfl Tryz.ntmps99 rfl fun w0 G0 S0 hs ho => ?_
    exact run trivial
  | true =>
    have e2 : Ms.renB ⟨num, 12, dn, pass, scope, limit, fil, want, mods, attrs, rdn, keep, true, up, avaT, avaV, which⟩ = [Ms.textB dn, Ms.textB rdn, Ber.tagB 1 [Ms.boolB (!keep)], Ber.tagB 128 [up]] := rfl
    rw [e2]
    have d3 : CFn Tryz.prog 97 [okI .u8 128, TSlX 1 (fun ts : List Ty => ts) [[TBytes (up)]]] (TBytes (Ber.tagB 128 [up])) := CFn.sub (tagO 128 [up] (by rw [Ms.tot_cons, Ms.tot_nil]; omega) (by simp)).justFn (by exact byQ)
    have hlt : 27 < Tryz.prog.types.size := Nat.le_of_ble_eq_true (by kernel_rfl)
    have hsz : (Tryz.prog.types[27]'hlt).size = 1 := by kernel_rfl
    have d2 : ∀ v : Value, CFn Tryz.prog 97 [okI .u8 ((b8 96 ||| b8 12).toNat : Int), TAnd (Is v) (TSl (Tryz.prog.types[27]'hlt).size (fun ts : List Ty => ts) (List.map (fun ts : List Ty => ts) [[TSl 1 cB (Ms.textB dn)], [TSl 1 cB (Ms.textB rdn)], [TSl 1 cB (Ber.tagB 1 [Ms.boolB (!keep)])]] ++ [[TSl 1 cB (Ber.tagB 128 [up])]]))] (TBytes (Ber.tagB 108 [Ms.textB dn, Ms.textB rdn, Ber.tagB 1 [Ms.boolB (!keep)], Ber.tagB 128 [up]])) := by
      intro v
      rw [hsz, show (b8 96 ||| b8 12) = (108 : UInt8) by decide +kernel]
      exact CFn.sub (tagO 108 [Ms.textB dn, Ms.textB rdn, Ber.tagB 1 [Ms.boolB (!keep)], Ber.tagB 128 [up]] (by rw [Ms.tot_cons, Ms.tot_cons, Ms.tot_cons, Ms.tot_cons, Ms.tot_nil]; omega) (by simp)).justFn ⟨Sub.refl _, Sub.ownR (Sub.slT rfl), trivial⟩
    clear o1 o2 o3 o4 o5 o12 o13 o14 o15 o16 o17 e e2 q1 q2 hsz
    have mu := Mut.mk' [97]
    have pl := Plan.mk' 14 [(0,3,[]),(1,3,[]),(2,3,[]),(3,3,[]),(4,3,[]),(5,3,[]),(6,3,[]),(7,3,[]),(8,3,[]),(9,3,[]),(10,0,[]),(11,3,[])]
    refine CallsC.of Tryz.call99 Tryz.func99 rfl Tryz.ntmps99 rfl fun w0 G0 S0 hs ho => ?_
    exact run trivial
set_option maxHeartbeats 8000000 in
theorem msOp14 (r : Ms.Req) (ha : Ms.Okr r) (hk : r.kind = 14) : CFn Tryz.prog 99 [TAgg (Ms.cReq r)] (TBytes (Ms.opB r)) := by
  obtain ⟨num, kind, dn, pass, scope, limit, fil, want, mods, attrs, rdn, keep, above, up, avaT, avaV, which⟩ := r
  dsimp only at hk
  subst hk
  obtain ⟨o1, o2, o3, o4, o5, o6, o7, o8, o9, o10, o11, o12, o13, o14, o15, o16, o17⟩ := ha
  dsimp only at o1 o2 o3 o4 o5 o6 o7 o8 o9 o10 o11 o12 o13 o14 o15 o16 o17
  have e : Ms.opB ⟨num, 14, dn, pass, scope, limit, fil, want, mods, attrs, rdn, keep, above, up, avaT, avaV, which⟩ = Ber.tagB 110 [Ms.textB dn, Ber.tagB 48 [Ms.textB avaT, Ms.textB avaV]] := rfl
  rw [e]
  dsimp only [Ms.cReq]
  have cN := msText' dn (by omega)
  have lN := Ms.textB_le' dn
  have c1 := msText' avaT (by omega)
  have c2 := msText' avaV (by omega)
  have l1 := Ms.textB_le' avaT
  have l2 := Ms.textB_le' avaV
  have l3 := Ms.tagB_le 48 [Ms.textB avaT, Ms.textB avaV]
  rw [Ms.tot_cons, Ms.tot_cons, Ms.tot_nil] at l3
  have d1 : CFn Tryz.prog 97 [okI .u8 48, TSlX 1 (fun ts : List Ty => ts) [[TBytes (Ms.textB avaT)], [TBytes (Ms.textB avaV)]]] (TBytes (Ber.tagB 48 [Ms.textB avaT, Ms.textB avaV])) := CFn.sub (tagO 48 [Ms.textB avaT, Ms.textB avaV] (by rw [Ms.tot_cons, Ms.tot_cons, Ms.tot_nil]; omega) (by simp)).justFn (by exact byQ)
  have d2 : CFn Tryz.prog 97 [okI .u8 ((b8 96 ||| b8 14).toNat : Int), TSlX 1 (fun ts : List Ty => ts) [[TBytes (Ms.textB dn)], [TBytes (Ber.tagB 48 [Ms.textB avaT, Ms.textB avaV])]]] (TBytes (Ber.tagB 110 [Ms.textB dn, Ber.tagB 48 [Ms.textB avaT, Ms.textB avaV]])) := by
    rw [show (b8 96 ||| b8 14) = (110 : UInt8) by decide +kernel]
    exact CFn.sub (tagO 110 [Ms.textB dn, Ber.tagB 48 [Ms.textB avaT, Ms.textB avaV]] (by rw [Ms.tot_cons, Ms.tot_cons, Ms.tot_nil]; omega) (by simp)).justFn (by exact byQ)
  clear o1 o2 o3 o4 o5 o12 o13 o14 o15 o16 o17 e
  refine CallsC.of Tryz.call99 Tryz.func99 rfl Tryz.ntmps99 rfl fun w0 G0 S0 hs ho => ?_
  exact run trivial
set_option maxHeartbeats 8000000 in
theorem msOp16 (r : Ms.Req) (ha : Ms.Okr r) (hk : r.kind = 16) : CFn Tryz.prog 99 [TAgg (Ms.cReq r)] (TBytes (Ms.opB r)) := by
  obtain ⟨num, kind, dn, pass, scope, limit, fil, want, mods, attrs, rdn, keep, above, up, avaT, avaV, which⟩ := r
  dsimp only at hk
  subst hk
  obtain ⟨o1, o2, o3, o4, o5, o6, o7, o8, o9, o10, o11, o12, o13, o14, o15, o16, o17⟩ := ha
  dsimp only at o1 o2 o3 o4 o5 o6 o7 o8 o9 o10 o11 o12 o13 o14 o15 o16 o17
  have e : Ms.opB ⟨num, 16, dn, pass, scope, limit, fil, want, mods, attrs, rdn, keep, above, up, avaT, avaV, which⟩ = Ber.tagB 80 [Ber.intB which] := rfl
  rw [e]
  dsimp only [Ms.cReq]
  have cN := msText' dn (by omega)
  have lN := Ms.textB_le' dn
  have c1 := int which o5
  have l1 := Ms.intB_le' o5
  have d1 : CFn Tryz.prog 97 [okI .u8 80, TSlX 1 (fun ts : List Ty => ts) [[TBytes (Ber.intB which)]]] (TBytes (Ber.tagB 80 [Ber.intB which])) := CFn.sub (tagO 80 [Ber.intB which] (by rw [Ms.tot_cons, Ms.tot_nil]; omega) (by simp)).justFn (by exact byQ)
  clear o1 o2 o3 o4 o5 o12 o13 o14 o15 o16 o17 e
  refine CallsC.of Tryz.call99 Tryz.func99 rfl Tryz.ntmps99 rfl fun w0 G0 S0 hs ho => ?_
  exact run trivial
set_option maxHeartbeats 8000000 in
theorem msOp2 (r : Ms.Req) (ha : Ms.Okr r) (hk : r.kind = 2) : CFn Tryz.prog 99 [TAgg (Ms.cReq r)] (TBytes (Ms.opB r)) := by
  obtain ⟨num, kind, dn, pass, scope, limit, fil, want, mods, attrs, rdn, keep, above, up, avaT, avaV, which⟩ := r
  dsimp only at hk
  subst hk
  obtain ⟨o1, o2, o3, o4, o5, o6, o7, o8, o9, o10, o11, o12, o13, o14, o15, o16, o17⟩ := ha
  dsimp only at o1 o2 o3 o4 o5 o6 o7 o8 o9 o10 o11 o12 o13 o14 o15 o16 o17
  have e : Ms.opB ⟨num, 2, dn, pass, scope, limit, fil, want, mods, attrs, rdn, keep, above, up, avaT, avaV, which⟩ = Ber.tagB 66 [] := rfl
  rw [e]
  dsimp only [Ms.cReq]
  have cN := msText' dn (by omega)
  have lN := Ms.textB_le' dn
  have c1 := (tagO 66 [] (by decide) (by decide)).justFn
  clear o1 o2 o3 o4 o5 o12 o13 o14 o15 o16 o17 e
  refine CallsC.of Tryz.call99 Tryz.func99 rfl Tryz.ntmps99 rfl fun w0 G0 S0 hs ho => ?_
  exact run trivial
theorem msOper (r : Ms.Req) (ha : Ms.Okr r) (hk : Ms.isKindB r.kind = true) (hp : r.kind = 3 → Ms.Prf r.fil) : CFn Tryz.prog 99 [TAgg (Ms.cReq r)] (TBytes (Ms.opB r)) := by
  rcases Ms.isKindB_iff.1 hk with h | h | h | h | h | h | h | h | h
  · exact msOp0 r ha h
  · exact msOp2 r ha h
  · exact msOp3 r ha h (hp h)
  · exact msOp6 r ha h
  · exact msOp8 r ha h
  · exact msOp10 r ha h
  · exact msOp12 r ha h
  · exact msOp14 r ha h
  · exact msOp16 r ha h
attribute [local irreducible] Ms.opB Ms.soundB
set_option maxHeartbeats 4000000 in
theorem msEncode (r : Ms.Req) (ha : Ms.Okr r) : CFn Tryz.prog 80 [TAgg (Ms.cReq r)] (TTup [TBytes (if Ms.isR r = true then Ms.reqB r else []), okI .i64 (if Ms.isR r = true then 0 else 1)]) := by
  have c1 := msSound r ha
  unfold Ms.isR
  cases hS : Ms.soundB r with
  | false =>
    rw [hS] at c1
    simp only [Bool.false_and, Bool.false_eq_true, reduceIte]
    clear ha
    refine CallsC.of Tryz.call80 Tryz.func80 rfl Tryz.ntmps80 rfl fun w0 G0 S0 hs ho => ?_
    exact run trivial
  | true =>
    rw [hS] at c1
    have hs2 := Ms.soundB_iff hS
    have c2 := msOper r ha hs2.1 (fun h => Ms.isF_pr (hs2.2 h))
    have c3 := int r.num ha.num
    have l1 := Ms.intB_le' ha.num
    have l2 := Ms.tag1_le 2 (Ber.intB r.num)
    have l3 := Ms.opB_le ha
    have c4 : CFn Tryz.prog 97 [okI .u8 2, TSlX 1 (fun ts : List Ty => ts) [[TBytes (Ber.intB r.num)]]] (TBytes (Ber.tagB 2 [Ber.intB r.num])) := CFn.sub (tagO 2 [Ber.intB r.num] (by rw [Ms.tot_cons, Ms.tot_nil]; omega) (by simp)).justFn (by exact byQ)
    have c5 : CFn Tryz.prog 97 [okI .u8 48, TSlX 1 (fun ts : List Ty => ts) [[TBytes (Ber.tagB 2 [Ber.intB r.num])], [TBytes (Ms.opB r)]]] (TBytes (Ms.reqB r)) := CFn.sub (tagO 48 [Ber.tagB 2 [Ber.intB r.num], Ms.opB r] (by rw [Ms.tot_cons, Ms.tot_cons, Ms.tot_nil]; omega) (by simp)).justFn (by exact byQ)
    clear ha hs2 l1 l2 l3
    simp only [Bool.true_and]
    by_cases hl : (Ms.reqB r).length ≤ 65536
    · rw [decide_eq_true hl]
      simp only [reduceIte]
      refine CallsC.of Tryz.call80 Tryz.func80 rfl Tryz.ntmps80 rfl fun w0 G0 S0 hs ho => ?_
      exact run trivial
    · rw [decide_eq_false hl]
      simp only [Bool.false_eq_true, reduceIte]
      refine CallsC.of Tryz.call80 Tryz.func80 rfl Tryz.ntmps80 rfl fun w0 G0 S0 hs ho => ?_
      exact run trivial
theorem msIs (r : Ms.Req) (ha : Ms.Okr r) : CFn Tryz.prog 49 [TAgg (Ms.cReq r)] (Is (.bool (Ms.isR r))) := by
  have c1 := msEncode r ha
  clear ha
  cases h : Ms.isR r with
  | false =>
    rw [h] at c1
    simp only [Bool.false_eq_true, reduceIte] at c1
    refine CallsC.of Tryz.call49 Tryz.func49 rfl Tryz.ntmps49 rfl fun w0 G0 S0 hs ho => ?_
    exact run trivial
  | true =>
    rw [h] at c1
    simp only [reduceIte] at c1
    refine CallsC.of Tryz.call49 Tryz.func49 rfl Tryz.ntmps49 rfl fun w0 G0 S0 hs ho => ?_
    exact run trivial
end Go.Proofs.YtkpghepeagafoaaGreat
namespace Go.Ber
open Go.Vk
theorem wrap_be (b : List UInt8) (s : Int) (h1 : 1 ≤ b.length) (h8 : b.length ≤ 8) (hs : (127 < (b.getD 0 0).toNat ∧ s = -1) ∨ ((b.getD 0 0).toNat ≤ 127 ∧ s = 0)) : IntKind.i64.wrap (be s b % 18446744073709551616) = be (s8 (b.getD 0 0)) (b.drop (Int.toNat 1)) := by
  cases b with
  | nil => simp at h1
  | cons c t =>
    have e : s * 256 + (c.toNat : Int) = s8 c := by
      rw [s8_val]
      simp only [List.getD_cons_zero] at hs
      split <;> omega
    have e2 : be s (c :: t) = be (s8 c) t := by rw [be_cons, e]
    rw [e2]
    show _ = be (s8 c) t
    have h2 := be_rb t _ (s8_bd c)
    have h3 := rb_mono (show t.length ≤ 7 from by simp at h8; omega)
    rw [rb7] at h3
    rw [IntKind.wrap_i64]
    omega
end Go.Ber
set_option maxRecDepth 8000
set_option linter.unusedVariables false
namespace Go.Proofs.YtkpghepeagafoaaGreat
open Go.Vk
attribute [local irreducible] HT HX RegS RegA RegM OpP OpC AltT
theorem refFromBool (l : List UInt8) : CFn Tryz.prog 100 [TBytes l] (TTup [Is (.bool (decide (l.length = 1) && decide ((l.getD 0 0).toNat ≠ 0))), okI .i64 (if l.length = 1 then 0 else 3)]) := by
  refine CallsC.of Tryz.call100 Tryz.func100 rfl Tryz.ntmps100 rfl fun w0 G0 S0 hs ho => ?_
  exact run trivial
theorem refInt (n : Int) (h : -9223372036854775808 ≤ n ∧ n ≤ 9223372036854775807) : CFn Tryz.prog 64 [okI .i64 n] (TBytes (Ber.intB n)) := by
  refine CallsC.of Tryz.call64 Tryz.func64 rfl Tryz.ntmps64 rfl fun w0 G0 S0 hs ho => ?_
  refine run ?_
  refine HT.loopX (σ := Nat × Int × List UInt8) [] (fun s => [(0, okI .i64 s.2.1), (3, TBytes s.2.2)]) (fun _ => []) (fun s => Ber.intAcc s.1 s.2.1 (b8 s.2.1 :: s.2.2) = Ber.intB n ∧ -(Ber.rb s.1) ≤ s.2.1 ∧ s.2.1 < Ber.rb s.1 ∧ s.2.2.length + s.1 = 7) (fun s => s.1) (7, n, []) ⟨rfl, by rw [Ber.rb7]; exact h.1, by rw [Ber.rb7]; dsimp only; omega, rfl⟩ (run trivial) (run trivial) ?_
  rintro ⟨k, m, acc⟩ ⟨h1, h2, h3, h4⟩
  dsimp only at h1 h2 h3 h4 ⊢
  have hk : acc.length ≤ 7 := by omega
  refine run ?_
  refine ⟨fun hb => ?_, fun hb => ?_⟩
  · have hm : -128 ≤ m ∧ m ≤ 127 := by
      simp only [List.cons_append, List.getD_cons_zero, b8_toNat] at hb
      omega
    rw [← h1]
    cases k with
    | zero => rfl
    | succ k => rw [Ber.intAcc, if_neg (by omega)]; rfl
  · have hm : 127 < m ∨ m < -128 := by
      simp only [List.cons_append, List.getD_cons_zero, b8_toNat] at hb
      omega
    obtain ⟨k, rfl⟩ : ∃ j, k = j + 1 := by
      cases k with
      | zero => simp only [Ber.rb] at h2 h3; omega
      | succ k => exact ⟨k, rfl⟩
    refine HX.roundX (k, m / 256, b8 m :: acc) ⟨⟨?_, ?_, ?_, by simp; omega⟩, by dsimp only; omega⟩ rfl (run trivial) (by refine run ?_; rfl)
    · rw [← h1, Ber.intAcc, if_pos hm]
    · dsimp only; simp only [Ber.rb] at h2; omega
    · dsimp only; simp only [Ber.rb] at h3; omega
theorem refFromInt (b : List UInt8) : CFn Tryz.prog 51 [TBytes b] (TTup [okI .i64 (Ber.fromIntB b).1, okI .i64 (Ber.fromIntB b).2]) := by
  refine CallsC.of Tryz.call51 Tryz.func51 rfl Tryz.ntmps51 rfl fun w0 G0 S0 hs ho => ?_
  refine run ?_
  refine ⟨fun hb => ?_, fun hb => ?_, fun hb hc => ?_, fun hb hc => ?_⟩
  · rw [Ber.fromIntB, if_pos (by omega)]
  · rw [Ber.fromIntB, if_pos (by omega)]
  · have hs8 : (127 < (b.getD 0 0).toNat ∧ (-1 : Int) = -1) ∨ ((b.getD 0 0).toNat ≤ 127 ∧ (-1 : Int) = 0) := .inl ⟨Int.ofNat_lt.1 hc, rfl⟩
    refine HT.loopX (σ := Nat) [0] (fun i => [(5, okI .i64 (i : Int)), (4, okI .u64 (Ber.be (-1) (b.take i) % 18446744073709551616))]) (fun _ => []) (fun i => i ≤ b.length) (fun i => b.length - i) 0 (Nat.zero_le _) (run trivial) (by refine run ?_; rfl) ?_
    intro i hi
    by_cases hlt : i < b.length
    · have hsn := Ber.be_snoc (-1) b i hlt
      refine run ?_
      intro _
      exact HX.roundX (i + 1) ⟨by omega, by omega⟩ rfl (run trivial) (run trivial)
    · refine run ?_
      intro _
      refine ⟨_, fun _ => op_convi rfl rfl rfl, ?_⟩
      refine run ?_
      refine ⟨?_, ?_⟩
      · rw [Ber.fromIntB, if_neg (by omega), List.take_of_length_le (by omega)]; exact (Ber.wrap_be b (-1) (by omega) (by omega) hs8)
      · rw [Ber.fromIntB, if_neg (by omega)]
  · have hs8 : (127 < (b.getD 0 0).toNat ∧ (0 : Int) = -1) ∨ ((b.getD 0 0).toNat ≤ 127 ∧ (0 : Int) = 0) := .inr ⟨Nat.le_of_not_lt (fun h => hc (Int.ofNat_lt.2 h)), rfl⟩
    refine HT.loopX (σ := Nat) [0] (fun i => [(5, okI .i64 (i : Int)), (4, okI .u64 (Ber.be (0) (b.take i) % 18446744073709551616))]) (fun _ => []) (fun i => i ≤ b.length) (fun i => b.length - i) 0 (Nat.zero_le _) (run trivial) (by refine run ?_; rfl) ?_
    intro i hi
    by_cases hlt : i < b.length
    · have hsn := Ber.be_snoc (0) b i hlt
      refine run ?_
      intro _
      exact HX.roundX (i + 1) ⟨by omega, by omega⟩ rfl (run trivial) (run trivial)
    · refine run ?_
      intro _
      refine ⟨_, fun _ => op_convi rfl rfl rfl, ?_⟩
      refine run ?_
      refine ⟨?_, ?_⟩
      · rw [Ber.fromIntB, if_neg (by omega), List.take_of_length_le (by omega)]; exact (Ber.wrap_be b (0) (by omega) (by omega) hs8)
      · rw [Ber.fromIntB, if_neg (by omega)]
end Go.Proofs.YtkpghepeagafoaaGreat
set_option linter.unusedVariables false
namespace Go.Ms
open Go.Vk
theorem tag_flat (t : UInt8) (ls : List (List UInt8)) : Ber.tagB t [ls.flatten] = Ber.tagB t ls := by
  unfold Ber.tagB
  rw [Ber.tot_one, Ber.tot_flat]
  simp
theorem flat_snoc {α : Type} [Inhabited α] {f : α → List UInt8} {l : List α} {i : Nat} (h : i < l.length) : ((l.take (i + 1)).map f).flatten = ((l.take i).map f).flatten ++ f (l.getD i default) := by
  rw [map_snoc h, List.flatten_append]
  simp
theorem flat_len {α : Type} {f : α → List UInt8} {g : α → Nat} (h : ∀ a, (f a).length ≤ g a) (l : List α) : (l.map f).flatten.length ≤ sm g l := by
  rw [Ber.tot_flat]
  exact tot_map h l
theorem id_snoc {l : List (List UInt8)} {i : Nat} (h : i < l.length) : (l.take (i + 1)).flatten = (l.take i).flatten ++ l.getD i default := by
  have := flat_snoc (f := id) h
  simpa using this
theorem take_flat_len (l : List (List UInt8)) (i : Nat) : (l.take i).flatten.length ≤ Ber.tot l := by
  rw [Ber.tot_flat]
  unfold Ber.tot
  have := sm_take List.length l i
  exact this
end Go.Ms
set_option maxRecDepth 8000
set_option linter.unusedVariables false
namespace Go.Proofs.YtkpghepeagafoaaGreat
open Go.Vk
attribute [local irreducible] HT HX RegS RegA RegM OpP OpC AltT
attribute [local irreducible] Ber.tagB Ber.lenB Ber.intB Ms.textB Ms.wV Ms.wF Ms.filB Ms.piecesB Ms.tagF Fi.isF Fi.wt Ms.wM Ms.wA Ms.textsB Ms.modsB Ms.attrsB Ms.attB Ms.attrB Ms.modB
set_option maxHeartbeats 1000000 in
theorem tagD (t : UInt8) (ls : List (List UInt8)) (hl : Ber.tot ls ≤ 1000000000) (hn : ls.length ≤ 1000000000) : CFn Tryz.prog 40 [okI .u8 (t.toNat : Int), TSl 1 (cL 1 cB) ls] (TBytes (Ber.tagB t ls)) := by
  have htl := Ms.take_flat_len ls
  refine CallsC.of Tryz.call40 Tryz.func40 rfl Tryz.ntmps40 rfl fun w0 G0 S0 hs ho => ?_
  refine run ?_
  refine HT.loopX (σ := Nat × List UInt8 × Value) [0, 1, 4] (fun t' => [(5, TAnd (Is t'.2.2) (TBytes t'.2.1)), (6, okI .i64 (t'.1 : Int))]) (fun t' => [ownSl t'.2.2 1 5]) (fun t' => t'.1 ≤ ls.length ∧ t'.2.1 = (ls.take t'.1).flatten) (fun t' => ls.length - t'.1) (0, [], .slice none 0 0) ⟨Nat.zero_le _, rfl⟩ (run trivial) (run trivial) ?_
  rintro ⟨i, q, v⟩ ⟨hi, ha⟩
  dsimp only at hi ha ⊢
  have hql : q.length ≤ Ber.tot ls := by rw [ha]; exact htl i
  by_cases hlt : i < ls.length
  · have h1 := htl (i + 1)
    have h2 := Ms.id_snoc hlt
    rw [h2, ← ha, List.length_append] at h1
    clear htl
    refine run ?_
    intro v' _
    exact HX.roundX (i + 1, q ++ ls.getD i default, v') ⟨⟨by dsimp only; omega, by dsimp only; rw [h2, ha]⟩, by dsimp only; omega⟩ rfl (run trivial) (run trivial)
  · rw [List.take_of_length_le (by omega)] at ha
    have c1 := refTag t q (by omega)
    have e : Ber.tagB t ls = Ber.tagB t [q] := by rw [ha, Ms.tag_flat]
    rw [e]
    clear htl ha e
    exact run trivial
/-- tag of one part. -/
theorem tagD1 (t : UInt8) (a : List UInt8) (h : a.length ≤ 1000000000) : CFn Tryz.prog 40 [okI .u8 (t.toNat : Int), TSlX 1 (fun ts : List Ty => ts) [[TBytes a]]] (TBytes (Ber.tagB t [a])) := CFn.sub (tagD t [a] (by rw [Ber.tot_one]; exact h) (by simp)) (by exact byQ)
theorem refBool (b : Bool) : CFn Tryz.prog 66 [Is (.bool b)] (TBytes (Ms.boolB b)) := by
  unfold Ms.boolB
  refine CallsC.of Tryz.call66 Tryz.func66 rfl Tryz.ntmps66 rfl fun w0 G0 S0 hs ho => ?_
  refine run ?_
  refine ⟨fun h => ?_, fun h => ?_⟩ <;> simp [h] <;> rfl
theorem rfText25 (s : List UInt8) (hs9 : s.length ≤ 100000000) : CFn Tryz.prog 65 [Is (str s)] (TBytes (Ms.textB s)) := by
  have c1 := tagD1 4 s (by omega)
  have e : Ms.textB s = Ber.tagB 4 [s] := by unfold Ms.textB; rfl
  rw [e]
  refine CallsC.of Tryz.call65 Tryz.func65 rfl Tryz.ntmps65 rfl fun w0 G0 S0 hs ho => ?_
  exact run trivial
theorem rfNum25 (t : UInt8) (n : Int) (hn : Ms.okK n) : CFn Tryz.prog 41 [okI .u8 (t.toNat : Int), okI .i64 n] (TBytes (Ber.tagB t [Ber.intB n])) := by
  have h4 := Ber.intB_len n hn
  have c1 := tagD1 t (Ber.intB n) (by omega)
  have c2 := refInt n hn
  refine CallsC.of Tryz.call41 Tryz.func41 rfl Tryz.ntmps41 rfl fun w0 G0 S0 hs ho => ?_
  exact run trivial
set_option maxHeartbeats 1000000 in
theorem rfRows25 (t : UInt8) (l : List (List UInt8)) (hl : Ms.sm Ms.wV l ≤ 100000000) : CFn Tryz.prog 68 [okI .u8 (t.toNat : Int), TSl 1 En.cS l] (TBytes (Ms.textsB t l)) := by
  have hlen := Ms.sm_len Ms.wV_pos l
  have e : Ms.textsB t l = Ber.tagB t [(l.map Ms.textB).flatten] := by unfold Ms.textsB; rw [Ms.tag_flat]
  rw [e]
  refine CallsC.of Tryz.call68 Tryz.func68 rfl Tryz.ntmps68 rfl fun w0 G0 S0 hs ho => ?_
  refine run ?_
  refine HT.loopX (σ := Nat × List UInt8 × Value) [0, 1, 4] (fun t' => [(5, TAnd (Is t'.2.2) (TBytes t'.2.1)), (6, okI .i64 (t'.1 : Int))]) (fun t' => [ownSl t'.2.2 1 5]) (fun t' => t'.1 ≤ l.length ∧ t'.2.1 = ((l.take t'.1).map Ms.textB).flatten) (fun t' => l.length - t'.1) (0, [], .slice none 0 0) ⟨Nat.zero_le _, rfl⟩ (run trivial) (run trivial) ?_
  rintro ⟨i, q, v⟩ ⟨hi, ha⟩
  dsimp only at hi ha ⊢
  have hql : q.length ≤ Ms.sm Ms.wV l := by rw [ha]; exact Nat.le_trans (Ms.flat_len Ms.textB_le _) (Ms.sm_take _ _ _)
  by_cases hlt : i < l.length
  · have h2 := Ms.flat_snoc (f := Ms.textB) hlt
    have h9 := Ms.sm_mem (f := Ms.wV) (En.getD_mem hlt)
    have h8 : Ms.wV (l.getD i default) = (l.getD i default).length + 10 := by unfold Ms.wV; rfl
    have h7 := Ms.textB_le (l.getD i default)
    have c1 := rfText25 (l.getD i default) (by omega)
    refine run ?_
    intro v' _
    exact HX.roundX (i + 1, q ++ Ms.textB (l.getD i default), v') ⟨⟨by dsimp only; omega, by dsimp only; rw [h2, ha]⟩, by dsimp only; omega⟩ rfl (run trivial) (run trivial)
  · rw [List.take_of_length_le (by omega)] at ha
    rw [← ha]
    have c1 := tagD1 t q (by omega)
    clear ha e
    exact run trivial
theorem rfAttr25 (t : List UInt8) (l : List (List UInt8)) (hl : Ms.wAt t l ≤ 100000000) : CFn Tryz.prog 88 [Is (str t), TSl 1 En.cS l] (TBytes (Ms.attB t l)) := by
  have hd : Ms.wAt t l = t.length + (Ms.sm Ms.wV l + 10) + 30 := rfl
  have c1 := rfText25 t (by omega)
  have c2 := rfRows25 49 l (by omega)
  have h1 := Ms.textB_le t
  have h2 := Ms.textsB_le 49 l
  have hd1 : Ms.wV t = t.length + 10 := by unfold Ms.wV; rfl
  have hd2 : Ms.wVs l = Ms.sm Ms.wV l + 10 := rfl
  have e : Ms.attB t l = Ber.tagB 48 [Ms.textB t, Ms.textsB 49 l] := by unfold Ms.attB; rfl
  rw [e]
  have c4 : CFn Tryz.prog 40 [okI .u8 48, TSlX 1 (fun ts : List Ty => ts) [[TBytes (Ms.textB t)], [TBytes (Ms.textsB 49 l)]]] (TBytes (Ber.tagB 48 [Ms.textB t, Ms.textsB 49 l])) := CFn.sub (tagD 48 [Ms.textB t, Ms.textsB 49 l] (by rw [Ms.tot_cons, Ms.tot_cons, Ms.tot_nil]; omega) (by simp)) (by exact byQ)
  refine CallsC.of Tryz.call88 Tryz.func88 rfl Tryz.ntmps88 rfl fun w0 G0 S0 hs ho => ?_
  exact run trivial
set_option maxHeartbeats 1000000 in
theorem rfAttrs25 (l : List En.Attr) (hl : Ms.sm Ms.wA l ≤ 100000000) : CFn Tryz.prog 70 [TSl 2 En.cAttr l] (TBytes (Ms.attrsB l)) := by
  have hlen := Ms.sm_len Ms.wA_pos l
  have e : Ms.attrsB l = Ber.tagB 48 [(l.map Ms.attrB).flatten] := by unfold Ms.attrsB; rw [Ms.tag_flat]
  rw [e]
  refine CallsC.of Tryz.call70 Tryz.func70 rfl Tryz.ntmps70 rfl fun w0 G0 S0 hs ho => ?_
  refine run ?_
  refine HT.loopX (σ := Nat × List UInt8 × Value) [0, 2] (fun t' => [(3, TAnd (Is t'.2.2) (TBytes t'.2.1)), (4, okI .i64 (t'.1 : Int))]) (fun t' => [ownSl t'.2.2 1 5]) (fun t' => t'.1 ≤ l.length ∧ t'.2.1 = ((l.take t'.1).map Ms.attrB).flatten) (fun t' => l.length - t'.1) (0, [], .slice none 0 0) ⟨Nat.zero_le _, rfl⟩ (run trivial) (run trivial) ?_
  rintro ⟨i, q, v⟩ ⟨hi, ha⟩
  dsimp only at hi ha ⊢
  have hql : q.length ≤ Ms.sm Ms.wA l := by rw [ha]; exact Nat.le_trans (Ms.flat_len Ms.attrB_le _) (Ms.sm_take _ _ _)
  by_cases hlt : i < l.length
  · have h2 := Ms.flat_snoc (f := Ms.attrB) hlt
    have h7 := Ms.attrB_le (l.getD i default)
    have h9 := Ms.sm_mem (f := Ms.wA) (En.getD_mem hlt)
    have c1 : CFn Tryz.prog 88 [Is (str (l.getD i default).typ), TSl 1 En.cS (l.getD i default).vals] (TBytes (Ms.attrB (l.getD i default))) := by
      have h8 : Ms.wA (l.getD i default) = Ms.wAt (l.getD i default).typ (l.getD i default).vals := by unfold Ms.wA; rfl
      have e : Ms.attrB (l.getD i default) = Ms.attB (l.getD i default).typ (l.getD i default).vals := by unfold Ms.attrB; rfl
      rw [e]
      exact rfAttr25 _ _ (by omega)
    have pl := Plan.mk' 5 [(1,3,[]),(2,3,[]),(3,3,[]),(4,3,[]),(5,3,[]),(6,3,[]),(7,3,[]),(8,3,[]),(9,3,[]),(10,3,[]),(11,3,[]),(0,2,[1]),(12,0,[1]),(13,3,[])]
    refine run ?_
    intro v' _
    exact HX.roundX (i + 1, q ++ Ms.attrB (l.getD i default), v') ⟨⟨by dsimp only; omega, by dsimp only; rw [h2, ha]⟩, by dsimp only; omega⟩ rfl (run trivial) (run trivial)
  · rw [List.take_of_length_le (by omega)] at ha
    rw [← ha]
    have c1 := tagD1 48 q (by omega)
    clear ha e
    exact run trivial
end Go.Proofs.YtkpghepeagafoaaGreat
