/-
  The plain functions of entry: entries as bytes. Nothing here speaks of a program; no conditions.
  The contracts of entry.Is and of the document's.
  Orders of a region, written out. Nothing here speaks of a program; no conditions.
  Filters: the plain functions. Nothing here speaks of a program; no conditions.
  Filters out of texts: the program's way and the document's come to the same. Nothing here speaks of a program; no conditions.
-/
import Derived.Test.YtkpghepeagafoaaGreatJal
import Derived.Test.YtkpghepeagafoaaGreatJam
import Derived.Test.YtkpghepeagafoaaGreatJak
set_option linter.unusedSimpArgs false
set_option linter.unusedVariables false
set_option linter.unusedVariables false
namespace Go.En
open Go.Vk Go.Oct
open Go.Dn (Ava cAva typB isE okA)
/-- An attribute; an entry. -/
structure Attr where
  typ : List UInt8
  vals : List (List UInt8)
instance : Inhabited Attr := ⟨⟨[], []⟩⟩
abbrev cS (s : List UInt8) : List Ty := [Is (str s)]
def cAttr (a : Attr) : List Ty := [Is (str a.typ), TSl 1 cS a.vals]
structure Entry where
  dn : List Ava
  attrs : List Attr
def cEnt (e : Entry) : List Ty := [TSl 2 cAva e.dn, TSl 2 cAttr e.attrs]
def okV (v : List UInt8) : Bool := decide ((v.length : Int) ≤ 256)
def okT (a : Attr) : Bool := typB a.typ && decide (1 ≤ (a.vals.length : Int)) && decide ((a.vals.length : Int) ≤ 16) && a.vals.all okV
def isN (e : Entry) : Bool := isE e.dn && decide ((e.attrs.length : Int) ≤ 16) && e.attrs.all okT
def avaB (a : Ava) : List UInt8 := bytB a.typ ++ bytB a.val
def attrB (a : Attr) : List UInt8 := bytB a.typ ++ numB a.vals.length ++ a.vals.flatMap bytB
def encB (e : Entry) : List UInt8 := numB e.dn.length ++ e.dn.flatMap avaB ++ numB e.attrs.length ++ e.attrs.flatMap attrB
/-! ### lists -/
section
variable {α : Type}
theorem getD_mem [Inhabited α] {l : List α} {i : Nat} (h : i < l.length) : l.getD i default ∈ l := by
  rw [List.getD_eq_getElem?_getD, List.getElem?_eq_getElem h]; exact List.getElem_mem h
theorem flat_snoc [Inhabited α] {β : Type} {l : List α} {i : Nat} (f : α → List β) (h : i < l.length) : (l.take (i + 1)).flatMap f = (l.take i).flatMap f ++ f (l.getD i default) := by
  rw [List.take_succ_eq_append_getElem h, List.flatMap_append, List.getD_eq_getElem?_getD, List.getElem?_eq_getElem h]; simp
theorem flat_end {β : Type} {l : List α} {i : Nat} (f : α → List β) (h : ¬ i < l.length) : (l.take i).flatMap f = l.flatMap f := by
  rw [List.take_of_length_le (by omega)]
theorem flat_len {β : Type} {l : List α} {f : α → List β} {k : Nat} (h : ∀ a ∈ l, (f a).length ≤ k) : (l.flatMap f).length ≤ l.length * k := by
  induction l with
  | nil => simp
  | cons a l ih =>
    have h1 := h a (by simp)
    have h2 := ih (fun b hb => h b (by simp [hb]))
    rw [List.flatMap_cons, List.length_append, List.length_cons, Nat.succ_mul]
    omega
theorem flat_take {β : Type} {l : List α} {f : α → List β} {k n : Nat} (h : ∀ a ∈ l, (f a).length ≤ k) (hn : l.length ≤ n) (i : Nat) : ((l.take i).flatMap f).length ≤ n * k := by
  refine Nat.le_trans (flat_len (k := k) fun a ha => h a (List.mem_of_mem_take ha)) (Nat.mul_le_mul_right k ?_)
  rw [List.length_take]; omega
theorem all_snoc [Inhabited α] {p : α → Bool} {l : List α} {i : Nat} (h : i < l.length) (h1 : (l.take i).all p = true) (h2 : p (l.getD i default) = true) : (l.take (i + 1)).all p = true := by
  rw [List.take_succ_eq_append_getElem h, List.all_append, h1]
  rw [List.getD_eq_getElem?_getD, List.getElem?_eq_getElem h] at h2
  simpa using h2
theorem all_no [Inhabited α] {p : α → Bool} {l : List α} {i : Nat} (h : i < l.length) (h1 : p (l.getD i default) = false) : l.all p = false := by
  rw [List.all_eq_false]; exact ⟨_, getD_mem h, by rw [h1]; simp⟩
def ixOf (p : α → Bool) (l : List α) : Int := if l.any p = true then (l.findIdx p : Int) else -1
theorem any_snoc [Inhabited α] {p : α → Bool} {l : List α} {i : Nat} (h : i < l.length) (h1 : (l.take i).any p = false) (h2 : p (l.getD i default) = false) : (l.take (i + 1)).any p = false := by
  rw [List.take_succ_eq_append_getElem h, List.any_append, h1]
  rw [List.getD_eq_getElem?_getD, List.getElem?_eq_getElem h] at h2
  simpa using h2
theorem ixOf_none {p : α → Bool} {l : List α} (h : l.any p = false) : ixOf p l = -1 := by unfold ixOf; rw [h]; rfl
theorem ixOf_at [Inhabited α] {p : α → Bool} {l : List α} {i : Nat} (h : i < l.length) (h1 : (l.take i).any p = false) (h2 : p (l.getD i default) = true) : ixOf p l = i := by
  have h3 : p l[i] = true := by rw [List.getD_eq_getElem?_getD, List.getElem?_eq_getElem h] at h2; exact h2
  have h4 : l.any p = true := List.any_eq_true.2 ⟨l[i], List.getElem_mem h, h3⟩
  unfold ixOf
  rw [if_pos h4]
  congr 1
  rw [List.findIdx_eq h]
  refine ⟨h3, fun j hj => ?_⟩
  rw [List.any_eq_false] at h1
  have := h1 (l[j]) (List.mem_take_iff_getElem.2 ⟨j, by omega, rfl⟩)
  simpa using this
theorem ixOf_nonneg {p : α → Bool} {l : List α} : decide (0 ≤ ixOf p l) = l.any p := by
  unfold ixOf
  cases h : l.any p
  · rfl
  · simp
end
section
variable {α : Type} [Inhabited α]
theorem take_ext {l m : List α} {i : Nat} (h : i < l.length) (hc : l.length = m.length) (he : l.take i = m.take i) (h2 : l.getD i default = m.getD i default) : l.take (i + 1) = m.take (i + 1) := by
  have h' : i < m.length := by omega
  rw [List.getD_eq_getElem?_getD, List.getElem?_eq_getElem h, List.getD_eq_getElem?_getD, List.getElem?_eq_getElem h'] at h2
  have h3 : l[i] = m[i] := h2
  rw [List.take_succ_eq_append_getElem h, List.take_succ_eq_append_getElem h', he, h3]
end
theorem take_all {α : Type} {l m : List α} {i : Nat} (h : ¬ (i : Int) < (l.length : Int)) (hc : l.length = m.length) (he : l.take i = m.take i) : l = m := by
  rwa [List.take_of_length_le (by omega), List.take_of_length_le (by omega)] at he
theorem Attr.ext' {a b : Attr} (h1 : a.typ = b.typ) (h2 : a.vals = b.vals) : a = b := by cases a; cases b; simp at h1 h2; rw [h1, h2]
instance : DecidableEq Attr := fun a b => decidable_of_iff (a.typ = b.typ ∧ a.vals = b.vals) ⟨fun h => Attr.ext' h.1 h.2, fun h => by rw [h]; exact ⟨rfl, rfl⟩⟩
theorem Entry.ext' {a b : Entry} (h1 : a.dn = b.dn) (h2 : a.attrs = b.attrs) : a = b := by cases a; cases b; simp at h1 h2; rw [h1, h2]
instance : DecidableEq Entry := fun a b => decidable_of_iff (a.dn = b.dn ∧ a.attrs = b.attrs) ⟨fun h => Entry.ext' h.1 h.2, fun h => by rw [h]; exact ⟨rfl, rfl⟩⟩
theorem okT_any (a : Attr) : okT a = (typB a.typ && decide (1 ≤ (a.vals.length : Int)) && decide ((a.vals.length : Int) ≤ 16) && !a.vals.any (fun v => decide (256 < (v.length : Int)))) := by
  unfold okT
  rw [List.not_any_eq_all_not]
  congr 2
  funext v
  unfold okV
  by_cases h : (v.length : Int) ≤ 256
  · have : ¬ 256 < (v.length : Int) := by omega
    simp [h, this]
  · have : 256 < (v.length : Int) := by omega
    simp [h, this]
theorem isN_any (e : Entry) : isN e = (isE e.dn && decide ((e.attrs.length : Int) ≤ 16) && !e.attrs.any (fun a => !okT a)) := by
  unfold isN
  rw [List.not_any_eq_all_not]
  simp
theorem isN_no1 {e : Entry} (h : isE e.dn = false ∨ 16 < (e.attrs.length : Int)) : isN e = false := by
  unfold isN
  rcases h with h | h
  · rw [h]; simp
  · rw [decide_eq_false (p := (e.attrs.length : Int) ≤ 16) (by omega)]; simp
theorem isN_yes {e : Entry} (h1 : isE e.dn = true) (h2 : ¬ 16 < (e.attrs.length : Int)) (h3 : e.attrs.all okT = true) : isN e = true := by
  unfold isN
  rw [h1, h3, decide_eq_true (p := (e.attrs.length : Int) ≤ 16) (by omega)]; rfl
theorem isN_no2 {e : Entry} {i : Nat} (h : i < e.attrs.length) (h1 : okT (e.attrs.getD i default) = false) : isN e = false := by
  unfold isN
  rw [all_no h h1]; simp
theorem okT_no1 {a : Attr} (h : (typB a.typ = false ∨ (a.vals.length : Int) < 1) ∨ 16 < (a.vals.length : Int)) : okT a = false := by
  unfold okT
  rcases h with (h | h) | h
  · rw [h]; simp
  · rw [decide_eq_false (p := 1 ≤ (a.vals.length : Int)) (by omega)]; simp
  · rw [decide_eq_false (p := (a.vals.length : Int) ≤ 16) (by omega)]; simp
theorem okT_no2 {a : Attr} {i : Nat} (h : i < a.vals.length) (h1 : 256 < ((a.vals.getD i default).length : Int)) : okT a = false := by
  unfold okT
  rw [all_no (p := okV) h (decide_eq_false (by omega))]; simp
theorem okT_yes {a : Attr} (h1 : (typB a.typ = true ∧ ¬ (a.vals.length : Int) < 1) ∧ ¬ 16 < (a.vals.length : Int)) (h2 : a.vals.all okV = true) : okT a = true := by
  unfold okT
  rw [h1.1.1, h2, decide_eq_true (p := 1 ≤ (a.vals.length : Int)) (by omega), decide_eq_true (p := (a.vals.length : Int) ≤ 16) (by omega)]; rfl
theorem okV_yes {v : List UInt8} (h : ¬ 256 < (v.length : Int)) : okV v = true := decide_eq_true (by omega)
theorem ava_snoc {l : List Ava} {i : Nat} (h : i < l.length) : (l.take (i + 1)).flatMap avaB = (l.take i).flatMap avaB ++ (bytB (l.getD i default).typ ++ bytB (l.getD i default).val) := flat_snoc avaB h
theorem attr_snoc {l : List Attr} {i : Nat} (h : i < l.length) : (l.take (i + 1)).flatMap attrB = (l.take i).flatMap attrB ++ (bytB (l.getD i default).typ ++ numB (l.getD i default).vals.length ++ (l.getD i default).vals.flatMap bytB) := flat_snoc attrB h
/-- Nothing is too long to be walked through. -/
def sane (e : Entry) : Prop := e.dn.length ≤ 1152921504606846976 ∧ (∀ a ∈ e.dn, a.typ.length ≤ 1152921504606846976) ∧ e.attrs.length ≤ 1152921504606846976 ∧ ∀ a ∈ e.attrs, a.typ.length ≤ 1152921504606846976 ∧ a.vals.length ≤ 1152921504606846976
theorem bytB_len {l : List UInt8} {k : Nat} (h : l.length ≤ k) (hk : k ≤ 1000000) : (bytB l).length ≤ 9 + k := by
  have := numB_le (n := l.length) (by omega)
  unfold bytB
  rw [List.length_append]; omega
theorem typ_len {t : List UInt8} (h : typB t = true) : t.length ≤ 32 := by
  have := (Dn.typB_iff t).1 h
  omega
theorem okA_bd {a : Ava} (h : okA a = true) : a.typ.length ≤ 32 ∧ a.val.length ≤ 64 := by
  unfold okA at h
  simp only [Bool.and_eq_true, decide_eq_true_eq] at h
  exact ⟨typ_len h.1.1, by omega⟩
theorem okT_bd {a : Attr} (h : okT a = true) : a.typ.length ≤ 32 ∧ a.vals.length ≤ 16 ∧ ∀ v ∈ a.vals, v.length ≤ 256 := by
  unfold okT at h
  simp only [Bool.and_eq_true, decide_eq_true_eq, List.all_eq_true] at h
  refine ⟨typ_len h.1.1.1, by omega, fun v hv => ?_⟩
  have := h.2 v hv
  unfold okV at this
  simp only [decide_eq_true_eq] at this
  omega
theorem isN_bd {e : Entry} (h : isN e = true) : e.dn.length ≤ 12 ∧ (∀ a ∈ e.dn, a.typ.length ≤ 32 ∧ a.val.length ≤ 64) ∧ e.attrs.length ≤ 16 ∧ ∀ a ∈ e.attrs, a.typ.length ≤ 32 ∧ a.vals.length ≤ 16 ∧ ∀ v ∈ a.vals, v.length ≤ 256 := by
  unfold isN isE at h
  simp only [Bool.and_eq_true, decide_eq_true_eq, List.all_eq_true] at h
  exact ⟨by omega, fun a ha => okA_bd (h.1.1.2 a ha), by omega, fun a ha => okT_bd (h.2 a ha)⟩
theorem avaB_len {a : Ava} (h : a.typ.length ≤ 32 ∧ a.val.length ≤ 64) : (avaB a).length ≤ 200 := by
  have h1 := bytB_len (l := a.typ) (k := 32) h.1 (by omega)
  have h2 := bytB_len (l := a.val) (k := 64) h.2 (by omega)
  unfold avaB
  rw [List.length_append]; omega
theorem attrB_len {a : Attr} (h : a.typ.length ≤ 32 ∧ a.vals.length ≤ 16 ∧ ∀ v ∈ a.vals, v.length ≤ 256) : (attrB a).length ≤ 5000 := by
  have h1 := bytB_len (l := a.typ) (k := 32) h.1 (by omega)
  have h2 := flat_len (l := a.vals) (f := bytB) (k := 265) (fun v hv => bytB_len (k := 256) (h.2.2 v hv) (by omega))
  have h3 := numB_le (n := a.vals.length) (by omega)
  have h4 : a.vals.length * 265 ≤ 16 * 265 := Nat.mul_le_mul_right _ h.2.1
  unfold attrB
  rw [List.length_append, List.length_append]; omega
end Go.En
set_option maxRecDepth 8000
set_option linter.unusedVariables false
namespace Go.Proofs.YtkpghepeagafoaaGreat
open Go.Vk
attribute [local irreducible] HT HX RegS RegA RegM OpP OpC AltT
attribute [local irreducible] Dn.typB Dn.isE Dn.okA
theorem ixTxt {f : FuncId} {Cs : List Ty} (l : List (List UInt8)) (p : List UInt8 → Bool) (hl : l.length ≤ 1152921504606846976) (cf : ∀ a ∈ l, CFn Tryz.prog f ([Is (str a)] ++ Cs) (Is (.bool (p a)))) : CFn Tryz.prog 149 [TSl 1 En.cS l, TFn f Cs] (okI .i64 (En.ixOf p l)) := by
  refine CallsC.of Tryz.call149 Tryz.func149 rfl Tryz.ntmps149 rfl fun w0 G0 S0 hs ho => ?_
  refine run ?_
  refine HT.loopX (σ := Nat) [0, 1, 7] (fun i => [(8, okI .i64 (i : Int))]) (fun i => []) (fun i => i ≤ l.length ∧ (l.take i).any p = false) (fun i => l.length - i) 0 ⟨by omega, by simp⟩ (run trivial) (run trivial) ?_
  rintro i ⟨hi, hp⟩
  have cf' := fun (hlt : i < l.length) => cf (l.getD i default) (En.getD_mem hlt)
  clear cf
  refine run ?_
  refine ⟨fun h1 h2 => ?_, fun h1 h2 => ?_, fun h1 => ?_⟩
  · exact (En.ixOf_at (by omega) hp h2).symm
  · exact HX.roundX (i + 1) ⟨⟨by omega, En.any_snoc (by omega) hp h2⟩, by omega⟩ rfl (run trivial) (run trivial)
  · exact (En.ixOf_none (by rwa [List.take_of_length_le (by omega)] at hp)).symm
theorem anyTxt {f : FuncId} {Cs : List Ty} (l : List (List UInt8)) (p : List UInt8 → Bool) (hl : l.length ≤ 1152921504606846976) (cf : ∀ a ∈ l, CFn Tryz.prog f ([Is (str a)] ++ Cs) (Is (.bool (p a)))) : CFn Tryz.prog 145 [TSl 1 En.cS l, TFn f Cs] (Is (.bool (l.any p))) := by
  have c1 := ixTxt l p hl cf
  refine CallsC.of Tryz.call145 Tryz.func145 rfl Tryz.ntmps145 rfl fun w0 G0 S0 hs ho => ?_
  refine run ?_
  exact En.ixOf_nonneg
theorem ixAttr {f : FuncId} {Cs : List Ty} (l : List En.Attr) (p : En.Attr → Bool) (hl : l.length ≤ 1152921504606846976) (cf : ∀ a ∈ l, CFn Tryz.prog f ([TAgg (En.cAttr a)] ++ Cs) (Is (.bool (p a)))) : CFn Tryz.prog 134 [TSl 2 En.cAttr l, TFn f Cs] (okI .i64 (En.ixOf p l)) := by
  refine CallsC.of Tryz.call134 Tryz.func134 rfl Tryz.ntmps134 rfl fun w0 G0 S0 hs ho => ?_
  refine run ?_
  refine HT.loopX (σ := Nat) [0, 1, 7] (fun i => [(8, okI .i64 (i : Int))]) (fun i => []) (fun i => i ≤ l.length ∧ (l.take i).any p = false) (fun i => l.length - i) 0 ⟨by omega, by simp⟩ (run trivial) (run trivial) ?_
  rintro i ⟨hi, hp⟩
  have cf' := fun (hlt : i < l.length) => cf (l.getD i default) (En.getD_mem hlt)
  clear cf
  refine run ?_
  refine ⟨fun h1 h2 => ?_, fun h1 h2 => ?_, fun h1 => ?_⟩
  · exact (En.ixOf_at (by omega) hp h2).symm
  · exact HX.roundX (i + 1) ⟨⟨by omega, En.any_snoc (by omega) hp h2⟩, by omega⟩ rfl (run trivial) (run trivial)
  · exact (En.ixOf_none (by rwa [List.take_of_length_le (by omega)] at hp)).symm
theorem anyAttr {f : FuncId} {Cs : List Ty} (l : List En.Attr) (p : En.Attr → Bool) (hl : l.length ≤ 1152921504606846976) (cf : ∀ a ∈ l, CFn Tryz.prog f ([TAgg (En.cAttr a)] ++ Cs) (Is (.bool (p a)))) : CFn Tryz.prog 116 [TSl 2 En.cAttr l, TFn f Cs] (Is (.bool (l.any p))) := by
  have c1 := ixAttr l p hl cf
  refine CallsC.of Tryz.call116 Tryz.func116 rfl Tryz.ntmps116 rfl fun w0 G0 S0 hs ho => ?_
  refine run ?_
  exact En.ixOf_nonneg
end Go.Proofs.YtkpghepeagafoaaGreat
set_option linter.unusedVariables false
namespace Go.Vk
def seqT : List PlanE → CT
  | [] => .leaf
  | e :: r => .br e (seqT r) .leaf
def altT : CT → CT → CT
  | .leaf, s => s
  | .br e t r, s => .br e t (altT r s)
end Go.Vk
set_option linter.unusedVariables false
namespace Go.Fi
open Go.Vk
open Go.Dn (typB typC halfV)
/-- A filter. -/
inductive Fil where
  | mk (kind : Int) (typ val : List UInt8) (subs : List (List UInt8)) (kids : List Fil)
namespace Fil
def kind : Fil → Int | mk k _ _ _ _ => k
def typ : Fil → List UInt8 | mk _ t _ _ _ => t
def val : Fil → List UInt8 | mk _ _ v _ _ => v
def subs : Fil → List (List UInt8) | mk _ _ _ s _ => s
def kids : Fil → List Fil | mk _ _ _ _ ks => ks
end Fil
def zeroF : Fil := .mk 0 [] [] [] []
instance : Inhabited Fil := ⟨zeroF⟩
abbrev cS (s : List UInt8) : List Ty := [Is (str s)]
mutual
def cFil : Fil → List Ty
  | .mk k t v s ks => [okI .i64 k, Is (str t), Is (str v), TSl 1 cS s, TSl 5 (fun ts : List Ty => ts) (cFils ks)]
def cFils : List Fil → List (List Ty)
  | [] => []
  | f :: r => cFil f :: cFils r
end
def cF (f : Fil) : List Ty := [okI .i64 f.kind, Is (str f.typ), Is (str f.val), TSl 1 cS f.subs, TSl 5 cFil f.kids]
theorem cFils_map : ∀ l : List Fil, cFils l = l.map cFil
  | [] => rfl
  | f :: r => by rw [cFils, cFils_map r]; rfl
theorem Ty.ext' {T U : Ty} (h : ∀ G v, T.p G v ↔ U.p G v) : T = U := by
  obtain ⟨p, hp⟩ := T
  obtain ⟨q, hq⟩ := U
  have : p = q := by funext G v; exact propext (h G v)
  subst this; rfl
theorem tslMap {α : Type} (sz : Nat) (f : α → List Ty) (l : List α) : TSl sz (fun ts : List Ty => ts) (l.map f) = TSl sz f l :=
  Ty.ext' fun G v => ⟨SlP.map rfl, SlP.unmap⟩
theorem cF_eq : cFil = cF := by
  funext f
  cases f with
  | mk k t v s ks =>
    rw [cFil, cFils_map, tslMap]
    rfl
theorem cF_open (f : Fil) : TAgg (cF f) = TAgg [okI .i64 f.kind, Is (str f.typ), Is (str f.val), TSl 1 cS f.subs, TSl 5 cF f.kids] := by
  conv => lhs; unfold cF
  rw [cF_eq]
/-! ### how many, how heavy -/
mutual
def nodes : Fil → Nat
  | .mk _ _ _ _ ks => 1 + nodesL ks
def nodesL : List Fil → Nat
  | [] => 0
  | f :: r => nodes f + nodesL r
end
def subsW : List (List UInt8) → Nat
  | [] => 0
  | s :: r => 1 + s.length + subsW r
mutual
/-- How much a filter weighs. -/
def wt : Fil → Nat
  | .mk _ t v s ks => 5 + t.length + v.length + subsW s + wtL ks
def wtL : List Fil → Nat
  | [] => 0
  | f :: r => wt f + wtL r
end
/-! ### whether two are one -/
mutual
def sameF : Fil → Fil → Bool
  | .mk k t v s ks, .mk k' t' v' s' ks' => decide (k = k') && decide (t = t') && decide (v = v') && decide (s = s') && sameL ks ks'
def sameL : List Fil → List Fil → Bool
  | [], [] => true
  | f :: r, g :: q => sameF f g && sameL r q
  | _, _ => false
end
mutual
theorem sameF_iff : ∀ f g : Fil, sameF f g = true ↔ f = g
  | .mk k t v s ks, .mk k' t' v' s' ks' => by
    unfold sameF
    simp only [Bool.and_eq_true, decide_eq_true_eq, sameL_iff ks ks', Fil.mk.injEq]
    constructor
    · rintro ⟨⟨⟨⟨h1, h2⟩, h3⟩, h4⟩, h5⟩; exact ⟨h1, h2, h3, h4, h5⟩
    · rintro ⟨h1, h2, h3, h4, h5⟩; exact ⟨⟨⟨⟨h1, h2⟩, h3⟩, h4⟩, h5⟩
theorem sameL_iff : ∀ l m : List Fil, sameL l m = true ↔ l = m
  | [], [] => by simp [sameL]
  | f :: r, g :: q => by
    unfold sameL
    simp only [Bool.and_eq_true, sameF_iff f g, sameL_iff r q, List.cons.injEq]
  | [], g :: q => by simp [sameL]
  | f :: r, [] => by simp [sameL]
end
/-! ### whether one may be -/
def okS (s : List UInt8) : Bool := decide ((s.length : Int) ≤ 256)
/-- Whether pieces may be. -/
def subsB (l : List (List UInt8)) : Bool := decide (2 ≤ l.length) && decide (l.length ≤ 16) && l.all okS && (l.drop 1).dropLast.all (fun s => !decide (s = [])) && l.any (fun s => !decide (s = []))
mutual
/-- Whether a filter may be, so deep. -/
def oneF : Fil → Nat → Bool
  | .mk k t v s ks, deep => decide (deep ≤ 16) &&
    (if k = 0 ∨ k = 1 ∨ k = 2 then decide (t = []) && decide (v = []) && decide (s = []) && decide (ks ≠ []) && (decide (k ≠ 2) || decide (ks.length ≤ 1)) && oneL ks (deep + 1)
     else if k = 3 ∨ k = 5 ∨ k = 6 then decide (ks = []) && decide (s = []) && typB t && okS v
     else if k = 4 then decide (ks = []) && decide (v = []) && typB t && subsB s
     else if k = 7 then decide (ks = []) && decide (v = []) && decide (s = []) && typB t
     else false)
def oneL : List Fil → Nat → Bool
  | [], _ => true
  | f :: r, deep => oneF f deep && oneL r deep
end
def isF (f : Fil) : Bool := oneF f 1 && decide (nodes f ≤ 64)
/-- What is asked of a filter apart from its kids: none of them is looked at unless this holds. -/
def mayH : Fil → Bool
  | .mk k t v s ks =>
    if k = 0 ∨ k = 1 ∨ k = 2 then decide (t = []) && decide (v = []) && decide (s = []) && (decide (ks ≠ []) && (decide (k ≠ 2) || decide (ks.length = 1)))
    else if k = 3 ∨ k = 5 ∨ k = 6 then typB t && okS v && decide (s = []) && decide (ks = [])
    else if k = 4 then typB t && decide (v = []) && subsB s && decide (ks = [])
    else if k = 7 then typB t && decide (v = []) && decide (s = []) && decide (ks = [])
    else false
mutual
/-- The same, as it is counted: whether; how many are left. -/
def mayF : Fil → Nat → Int → Bool × Int
  | .mk k t v s ks, deep, left =>
    if left - 1 < 0 ∨ 16 ≤ deep then (false, left - 1)
    else if mayH (.mk k t v s ks) = true then mayL ks (deep + 1) (left - 1) else (false, left - 1)
def mayL : List Fil → Nat → Int → Bool × Int
  | [], _, left => (true, left)
  | f :: r, deep, left => if (mayF f deep left).1 = true then mayL r deep (mayF f deep left).2 else (false, (mayF f deep left).2)
end
/-! ### as a text -/
def hexC (n : Nat) : UInt8 := if n < 10 then UInt8.ofNat (48 + n) else UInt8.ofNat (87 + n)
def barC (c : UInt8) : Bool := decide ((c.toNat : Int) < 32) || decide (126 < (c.toNat : Int)) || decide (c = 42) || decide (c = 40) || decide (c = 41) || decide (c = 92)
def toldC (c : UInt8) : List UInt8 := if barC c = true then [92, hexC (c.toNat / 16), hexC (c.toNat % 16)] else [c]
def told (s : List UInt8) : List UInt8 := s.flatMap toldC
def joinB : List (List UInt8) → List UInt8
  | [] => []
  | [x] => x
  | x :: y :: r => x ++ 42 :: joinB (y :: r)
def headT (k : Int) (t v : List UInt8) (s : List (List UInt8)) : List UInt8 :=
  if k = 0 then [38] else if k = 1 then [124] else if k = 2 then [33]
  else if k = 3 then t ++ 61 :: told v
  else if k = 4 then t ++ 61 :: joinB (s.map told)
  else if k = 5 then t ++ 62 :: 61 :: told v
  else if k = 6 then t ++ 60 :: 61 :: told v
  else if k = 7 then t ++ [61, 42] else []
mutual
def prF : Fil → List UInt8
  | .mk k t v s ks => 40 :: (headT k t v s ++ prL ks ++ [41])
def prL : List Fil → List UInt8
  | [] => []
  | f :: r => prF f ++ prL r
end
/-! ### out of a text: the program's way; what is left of the text, and the error, are told -/
abbrev St := List UInt8 × Int
def failE (e c : Int) : Int := if e = 0 then c else e
def stopV (c : UInt8) : Bool := decide (c = 42) || decide (c = 40) || decide (c = 41)
def pDig : List UInt8 → Int → Int × St
  | [], e => (0, [], failE e 3)
  | c :: r, e => if halfV c < 0 then (0, r, failE e 3) else (halfV c, r, e)
theorem pDig_le (r : List UInt8) (e : Int) : (pDig r e).2.1.length ≤ r.length := by
  cases r with
  | nil => simp [pDig]
  | cons c r => by_cases h : halfV c < 0 <;> simp [pDig, h]
def pVal (r : List UInt8) : List UInt8 × St :=
  match r with
  | [] => ([], [], 0)
  | c :: t =>
    if stopV c = true then ([], c :: t, 0)
    else if c = 0 then ([0], t, 3)
    else if c = 92 then
      (if (pDig (pDig t 0).2.1 (pDig t 0).2.2).2.2 = 0 then (b8 ((pDig t 0).1 * 16 + (pDig (pDig t 0).2.1 (pDig t 0).2.2).1) :: (pVal (pDig (pDig t 0).2.1 (pDig t 0).2.2).2.1).1, (pVal (pDig (pDig t 0).2.1 (pDig t 0).2.2).2.1).2)
       else ([b8 ((pDig t 0).1 * 16 + (pDig (pDig t 0).2.1 (pDig t 0).2.2).1)], (pDig (pDig t 0).2.1 (pDig t 0).2.2).2))
    else (c :: (pVal t).1, (pVal t).2)
termination_by r.length
decreasing_by
  all_goals simp only [List.length_cons]
  all_goals (have h1 := pDig_le (pDig t 0).2.1 (pDig t 0).2.2; have h2 := pDig_le t 0; omega)
theorem pVal_le (r : List UInt8) : (pVal r).2.1.length ≤ r.length := by
  induction hn : r.length using Nat.strongRecOn generalizing r with
  | _ n ih =>
    unfold pVal
    cases r with
    | nil => simp
    | cons c t =>
      simp only [List.length_cons] at hn
      have h1 := pDig_le (pDig t 0).2.1 (pDig t 0).2.2
      have h2 := pDig_le t 0
      dsimp only
      split
      · simp; omega
      split
      · simp; omega
      split
      · split
        · have := ih _ (by omega) (pDig (pDig t 0).2.1 (pDig t 0).2.2).2.1 rfl
          dsimp only; omega
        · dsimp only; omega
      · have := ih _ (by omega) t rfl
        dsimp only; omega
def pStars (r : List UInt8) (e : Int) : List (List UInt8) × St :=
  match r with
  | [] => ([], [], e)
  | c :: t => if e = 0 ∧ c = 42 then ((pVal t).1 :: (pStars (pVal t).2.1 (pVal t).2.2).1, (pStars (pVal t).2.1 (pVal t).2.2).2) else ([], c :: t, e)
termination_by r.length
decreasing_by
  all_goals simp only [List.length_cons]
  all_goals (have h1 := pVal_le t; omega)
def pEq (r : List UInt8) : List (List UInt8) × St := ((pVal r).1 :: (pStars (pVal r).2.1 (pVal r).2.2).1, (pStars (pVal r).2.1 (pVal r).2.2).2)
def noSign (c : UInt8) : Bool := !(decide (c = 61) || decide (c = 60) || decide (c = 62) || decide (c = 126))
def pKind (r : List UInt8) : List UInt8 × St := (r.takeWhile noSign, r.dropWhile noSign, if typB (r.takeWhile noSign) = true then 0 else 3)
def tk (t r : List UInt8) : Bool := t.isPrefixOf r
def mkEq (t : List UInt8) (l : List (List UInt8)) : Fil :=
  if l.length = 1 then .mk 3 t (l.getD 0 []) [] []
  else if l.length = 2 ∧ l.getD 0 [] = [] ∧ l.getD 1 [] = [] then .mk 7 t [] [] []
  else .mk 4 t [] l []
/-- Behind a type. -/
def pRest (t r : List UInt8) : Fil × St :=
  if tk [61] r = true then (mkEq t (pEq (r.drop 1)).1, (pEq (r.drop 1)).2)
  else if tk [62, 61] r = true then (.mk 5 t (pVal (r.drop 2)).1 [] [], (pVal (r.drop 2)).2)
  else if tk [60, 61] r = true then (.mk 6 t (pVal (r.drop 2)).1 [] [], (pVal (r.drop 2)).2)
  else if tk [126, 61] r = true then (.mk 3 t (pVal (r.drop 2)).1 [] [], (pVal (r.drop 2)).2)
  else (.mk 0 t [] [] [], r, 3)
def pItem (r : List UInt8) : Fil × St :=
  if (pKind r).2.2 = 0 then pRest (pKind r).1 (pKind r).2.1 else (.mk 0 (pKind r).1 [] [] [], (pKind r).2)
/-- One filter or more. -/
def kLoop (pf : List UInt8 → Fil × St) (k : Int) : Nat → List Fil → List UInt8 → List Fil × St
  | 0, acc, r => (acc, r, 0)
  | n + 1, acc, r => if (pf r).2.2 = 0 ∧ k ≠ 2 ∧ tk [40] (pf r).2.1 = true then kLoop pf k n (acc ++ [(pf r).1]) (pf r).2.1 else (acc ++ [(pf r).1], (pf r).2)
def pKids (pf : List UInt8 → Fil × St) (k : Int) (r : List UInt8) : Fil × St := (.mk k [] [] [] (kLoop pf k (r.length + 1) [] r).1, (kLoop pf k (r.length + 1) [] r).2)
/-- The end of a filter. -/
def closeP (x : Fil × St) : Fil × St := if x.2.2 = 0 then (if tk [41] x.2.1 = true then (x.1, x.2.1.drop 1, 0) else (x.1, x.2.1, 3)) else x
def pBody (pf : List UInt8 → Fil × St) (r : List UInt8) : Fil × St :=
  if tk [38] r = true then pKids pf 0 (r.drop 1) else if tk [124] r = true then pKids pf 1 (r.drop 1) else if tk [33] r = true then pKids pf 2 (r.drop 1) else pItem r
def pFilt : Nat → List UInt8 → Fil × St
  | 0, r => if tk [40] r = true then (zeroF, r.drop 1, 10) else (zeroF, r, 3)
  | d + 1, r => if tk [40] r = true then closeP (pBody (pFilt d) (r.drop 1)) else (zeroF, r, 3)
def pParse (s : List UInt8) : Fil × Int :=
  if (pFilt 16 s).2.2 ≠ 0 then (zeroF, (pFilt 16 s).2.2) else if (pFilt 16 s).2.1 ≠ [] then (zeroF, 3) else if isF (pFilt 16 s).1 = true then ((pFilt 16 s).1, 0) else (zeroF, 5)
/-! ### out of a text: the document's way -/
def signC (r : List UInt8) : UInt8 := if tk [62] r = true then 62 else if tk [60] r = true then 60 else if tk [126] r = true then 126 else 61
def signT (r : List UInt8) : List UInt8 := if tk [62] r = true ∨ tk [60] r = true ∨ tk [126] r = true then r.drop 1 else r
/-- A type and a sign; 0: there is none. -/
def rTyp (r : List UInt8) : List UInt8 × UInt8 × List UInt8 :=
  if typB (r.takeWhile typC) = true then
    (if tk [61] (signT (r.dropWhile typC)) = true then (r.takeWhile typC, signC (r.dropWhile typC), (signT (r.dropWhile typC)).drop 1) else ([], 0, signT (r.dropWhile typC)))
  else ([], 0, r.dropWhile typC)
def inHead (x : UInt8) : List (List UInt8) → List (List UInt8)
  | [] => []
  | p :: r => (x :: p) :: r
/-- Pieces of a value; none: it is none. -/
def rVal : List UInt8 → Option (List (List UInt8)) × List UInt8
  | [] => (some [[]], [])
  | c :: t =>
    if c = 41 then (some [[]], c :: t)
    else if c = 40 ∨ c = 0 then (none, c :: t)
    else if c = 42 then ((rVal t).1.map ([] :: ·), (rVal t).2)
    else if c = 92 then
      (match t with
       | h :: l :: t' => if 0 ≤ halfV h ∧ 0 ≤ halfV l then ((rVal t').1.map (inHead (b8 (16 * halfV h + halfV l))), (rVal t').2) else (none, c :: t)
       | _ => (none, c :: t))
    else ((rVal t).1.map (inHead c), (rVal t).2)
def rMk (t : List UInt8) (c : UInt8) (l : List (List UInt8)) : Fil :=
  if c = 62 then .mk 5 t (l.getD 0 []) [] [] else if c = 60 then .mk 6 t (l.getD 0 []) [] []
  else if l.length = 2 ∧ l.getD 0 [] = [] ∧ l.getD 1 [] = [] then .mk 7 t [] [] []
  else if 1 < l.length then .mk 4 t [] l [] else .mk 3 t (l.getD 0 []) [] []
def rFin (t : List UInt8) (c : UInt8) : Option (List (List UInt8)) × List UInt8 → Fil × St
  | (none, q) => (zeroF, q, 3)
  | (some l, q) => if c ≠ 61 ∧ 1 < l.length then (zeroF, q, 3) else (rMk t c l, q, 0)
theorem rFin_none (t : List UInt8) (c : UInt8) (q : List UInt8) : rFin t c (none, q) = (zeroF, q, 3) := rfl
theorem rFin_some (t : List UInt8) (c : UInt8) (l : List (List UInt8)) (q : List UInt8) : rFin t c (some l, q) = if c ≠ 61 ∧ 1 < l.length then (zeroF, q, 3) else (rMk t c l, q, 0) := rfl
def rItem (r : List UInt8) : Fil × St :=
  if (rTyp r).2.1 = 0 then (zeroF, (rTyp r).2.2, 3) else rFin (rTyp r).1 (rTyp r).2.1 (rVal (rTyp r).2.2)
def rLoop (rf : List UInt8 → Fil × St) : Nat → List Fil → List UInt8 → List Fil × St
  | 0, acc, r => (acc, r, 0)
  | n + 1, acc, r => if (rf r).2.2 = 0 ∧ tk [40] (rf r).2.1 = true then rLoop rf n (acc ++ [(rf r).1]) (rf r).2.1 else (acc ++ [(rf r).1], (rf r).2)
def rKids (rf : List UInt8 → Fil × St) (k : Int) (r : List UInt8) : Fil × St := (.mk k [] [] [] (rLoop rf (r.length + 1) [] r).1, (rLoop rf (r.length + 1) [] r).2)
def closeR (x : Fil × St) : Fil × St := if x.2.2 = 0 then (if tk [41] x.2.1 = true then (x.1, x.2.1.drop 1, 0) else (zeroF, x.2.1, 3)) else x
def rBody (rf : List UInt8 → Fil × St) (r : List UInt8) : Fil × St :=
  if tk [38] r = true then rKids rf 0 (r.drop 1) else if tk [124] r = true then rKids rf 1 (r.drop 1) else if tk [33] r = true then (.mk 2 [] [] [] [(rf (r.drop 1)).1], (rf (r.drop 1)).2) else rItem r
def rFilt : Nat → List UInt8 → Fil × St
  | 0, r => if tk [40] r = true then (zeroF, r.drop 1, 10) else (zeroF, r, 3)
  | d + 1, r => if tk [40] r = true then closeR (rBody (rFilt d) (r.drop 1)) else (zeroF, r, 3)
def rParse (s : List UInt8) : Fil × Int :=
  if (rFilt 16 s).2.2 ≠ 0 then (zeroF, (rFilt 16 s).2.2) else if (rFilt 16 s).2.1 ≠ [] then (zeroF, 3) else if isF (rFilt 16 s).1 = true then ((rFilt 16 s).1, 0) else (zeroF, 5)
end Go.Fi
set_option linter.unusedVariables false
namespace Go.Fi
open Go.Vk
open Go.Dn (typB typC halfV)
theorem pVal_nil : pVal [] = ([], [], 0) := by unfold pVal; rfl
theorem pVal_stop {c : UInt8} {t : List UInt8} (h : stopV c = true) : pVal (c :: t) = ([], c :: t, 0) := by unfold pVal; simp only [h, if_true]
theorem pVal_zero (t : List UInt8) : pVal (0 :: t) = ([0], t, 3) := by unfold pVal; rfl
theorem pVal_esc (t : List UInt8) : pVal (92 :: t) = if (pDig (pDig t 0).2.1 (pDig t 0).2.2).2.2 = 0 then (b8 ((pDig t 0).1 * 16 + (pDig (pDig t 0).2.1 (pDig t 0).2.2).1) :: (pVal (pDig (pDig t 0).2.1 (pDig t 0).2.2).2.1).1, (pVal (pDig (pDig t 0).2.1 (pDig t 0).2.2).2.1).2)
       else ([b8 ((pDig t 0).1 * 16 + (pDig (pDig t 0).2.1 (pDig t 0).2.2).1)], (pDig (pDig t 0).2.1 (pDig t 0).2.2).2) := by
  conv => lhs; unfold pVal
  rfl
theorem pVal_plain {c : UInt8} {t : List UInt8} (h1 : stopV c = false) (h2 : c ≠ 0) (h3 : c ≠ 92) : pVal (c :: t) = (c :: (pVal t).1, (pVal t).2) := by
  conv => lhs; unfold pVal
  simp only [h1, h2, h3, if_false, Bool.false_eq_true]
theorem pStars_nil (e : Int) : pStars [] e = ([], [], e) := by unfold pStars; rfl
theorem pStars_star (t : List UInt8) : pStars (42 :: t) 0 = ((pVal t).1 :: (pStars (pVal t).2.1 (pVal t).2.2).1, (pStars (pVal t).2.1 (pVal t).2.2).2) := by
  conv => lhs; unfold pStars
  simp
theorem pStars_no {c : UInt8} {t : List UInt8} {e : Int} (h : ¬ (e = 0 ∧ c = 42)) : pStars (c :: t) e = ([], c :: t, e) := by
  unfold pStars; rw [if_neg h]
theorem pStars_bad {r : List UInt8} {e : Int} (h : e ≠ 0) : pStars r e = ([], r, e) := by
  cases r with
  | nil => exact pStars_nil e
  | cons c t => exact pStars_no (fun x => h x.1)
theorem pDig_cons (c : UInt8) (t : List UInt8) (e : Int) : pDig (c :: t) e = if halfV c < 0 then (0, t, failE e 3) else (halfV c, t, e) := rfl
theorem pDig_bad {r : List UInt8} {e : Int} (h : e = 3) : (pDig r e).2.2 = 3 := by
  subst h
  cases r with
  | nil => rfl
  | cons c t => rw [pDig_cons]; split <;> rfl
theorem pDig_yes {c : UInt8} {t : List UInt8} (h : 0 ≤ halfV c) (e : Int) : pDig (c :: t) e = (halfV c, t, e) := by
  rw [pDig_cons, if_neg (by omega)]
theorem pDig_no {c : UInt8} {t : List UInt8} (h : ¬ 0 ≤ halfV c) : (pDig (c :: t) 0).2.2 = 3 := by
  rw [pDig_cons, if_pos (by omega)]; rfl
/-- An escape, as the document has it. -/
def escR : List UInt8 → Option (UInt8 × List UInt8)
  | h :: l :: t' => if 0 ≤ halfV h ∧ 0 ≤ halfV l then some (b8 (16 * halfV h + halfV l), t') else none
  | _ => none
theorem escR_cons (a b : UInt8) (q : List UInt8) : escR (a :: b :: q) = if 0 ≤ halfV a ∧ 0 ≤ halfV b then some (b8 (16 * halfV a + halfV b), q) else none := rfl
theorem rVal_esc (t : List UInt8) : rVal (92 :: t) = match escR t with
    | some x => ((rVal x.2).1.map (inHead x.1), (rVal x.2).2)
    | none => (none, 92 :: t) := by
  match t with
  | [] => rfl
  | [a] => rfl
  | a :: b :: q =>
    rw [escR_cons]
    have : rVal (92 :: a :: b :: q) = if 0 ≤ halfV a ∧ 0 ≤ halfV b then ((rVal q).1.map (inHead (b8 (16 * halfV a + halfV b))), (rVal q).2) else (none, 92 :: a :: b :: q) := rfl
    rw [this]
    by_cases h : 0 ≤ halfV a ∧ 0 ≤ halfV b
    · rw [if_pos h, if_pos h]
    · rw [if_neg h, if_neg h]
theorem rVal_plain {c : UInt8} {t : List UInt8} (h1 : c ≠ 41) (h2 : c ≠ 40) (h3 : c ≠ 0) (h4 : c ≠ 42) (h5 : c ≠ 92) : rVal (c :: t) = ((rVal t).1.map (inHead c), (rVal t).2) := by
  match t with
  | [] => simp [rVal, h1, h2, h3, h4, h5]
  | [a] => simp [rVal, h1, h2, h3, h4, h5]
  | a :: b :: q =>
    have : rVal (c :: a :: b :: q) = if c = 41 then (some [[]], c :: a :: b :: q) else if c = 40 ∨ c = 0 then (none, c :: a :: b :: q) else if c = 42 then ((rVal (a :: b :: q)).1.map ([] :: ·), (rVal (a :: b :: q)).2) else if c = 92 then (if 0 ≤ halfV a ∧ 0 ≤ halfV b then ((rVal q).1.map (inHead (b8 (16 * halfV a + halfV b))), (rVal q).2) else (none, c :: a :: b :: q)) else ((rVal (a :: b :: q)).1.map (inHead c), (rVal (a :: b :: q)).2) := rfl
    rw [this, if_neg h1, if_neg (by simp [h2, h3]), if_neg h4, if_neg h5]
theorem rVal_close (t : List UInt8) : rVal (41 :: t) = (some [[]], 41 :: t) := by
  match t with
  | [] => rfl
  | [a] => rfl
  | a :: b :: q => rfl
theorem rVal_bad {c : UInt8} (t : List UInt8) (h : c = 40 ∨ c = 0) : rVal (c :: t) = (none, c :: t) := by
  rcases h with rfl | rfl <;> (match t with
    | [] => rfl
    | [a] => rfl
    | a :: b :: q => rfl)
theorem rVal_star (t : List UInt8) : rVal (42 :: t) = ((rVal t).1.map ([] :: ·), (rVal t).2) := by
  match t with
  | [] => rfl
  | [a] => rfl
  | a :: b :: q => rfl
theorem esc_yes {t : List UInt8} {x : UInt8} {t' : List UInt8} (h : escR t = some (x, t')) : pVal (92 :: t) = (x :: (pVal t').1, (pVal t').2) ∧ t'.length < t.length ∧ rVal (92 :: t) = ((rVal t').1.map (inHead x), (rVal t').2) := by
  refine ⟨?_, ?_, by rw [rVal_esc, h]⟩
  all_goals
    match t, h with
    | a :: b :: q, h =>
      rw [escR_cons] at h
      by_cases hc : 0 ≤ halfV a ∧ 0 ≤ halfV b
      · rw [if_pos hc] at h
        simp only [Option.some.injEq, Prod.mk.injEq] at h
        obtain ⟨rfl, rfl⟩ := h
        first
          | (rw [pVal_esc, pDig_yes hc.1, pDig_yes hc.2, if_pos rfl, Int.mul_comm]; done)
          | (simp only [List.length_cons]; omega)
      · rw [if_neg hc] at h; simp at h
theorem esc_no {t : List UInt8} (h : escR t = none) : (pVal (92 :: t)).2.2 = 3 ∧ (rVal (92 :: t)).1 = none := by
  refine ⟨?_, by rw [rVal_esc, h]⟩
  have hp : (pDig (pDig t 0).2.1 (pDig t 0).2.2).2.2 = 3 := by
    match t, h with
    | [], _ => rfl
    | [a], _ =>
      by_cases ha : 0 ≤ halfV a
      · rw [pDig_yes ha]; rfl
      · exact pDig_bad (pDig_no ha)
    | a :: b :: q, h =>
      rw [escR_cons] at h
      by_cases hc : 0 ≤ halfV a ∧ 0 ≤ halfV b
      · rw [if_pos hc] at h; simp at h
      · by_cases ha : 0 ≤ halfV a
        · rw [pDig_yes ha]
          exact pDig_no (fun hb => hc (And.intro ha hb))
        · exact pDig_bad (pDig_no ha)
  rw [pVal_esc, if_neg (by rw [hp]; decide)]
  exact hp
theorem pVal_e (r : List UInt8) : (pVal r).2.2 = 0 ∨ (pVal r).2.2 = 3 := by
  induction hn : r.length using Nat.strongRecOn generalizing r with
  | _ n ih =>
    cases r with
    | nil => rw [pVal_nil]; exact .inl rfl
    | cons c t =>
      simp only [List.length_cons] at hn
      by_cases h1 : stopV c = true
      · rw [pVal_stop h1]; exact .inl rfl
      by_cases h2 : c = 0
      · subst h2; rw [pVal_zero]; exact .inr rfl
      by_cases h3 : c = 92
      · subst h3
        cases he : escR t with
        | none => exact .inr (esc_no he).1
        | some x =>
          obtain ⟨x, t'⟩ := x
          obtain ⟨e1, e2, _⟩ := esc_yes he
          rw [e1]
          exact ih _ (by omega) t' rfl
      · rw [pVal_plain (by simpa using h1) h2 h3]
        exact ih _ (by omega) t rfl
theorem tk1 {c : UInt8} {r : List UInt8} : tk [c] r = true ↔ ∃ t, r = c :: t := by
  unfold tk
  cases r with
  | nil => simp
  | cons d t =>
    by_cases h : c = d
    · subst h; simp [List.isPrefixOf]
    · have : (c == d) = false := by simpa using h
      simp only [List.isPrefixOf, this, Bool.false_and, Bool.false_eq_true, List.cons.injEq, false_iff]
      rintro ⟨t', h', _⟩
      exact h h'.symm
theorem tk1_cons {c d : UInt8} {t : List UInt8} : tk [c] (d :: t) = decide (d = c) := by
  unfold tk
  by_cases h : d = c
  · subst h; simp [List.isPrefixOf]
  · have : (c == d) = false := by simpa using fun e => h e.symm
    simp [List.isPrefixOf, this, h]
theorem tk1_nil {c : UInt8} : tk [c] [] = false := rfl
/-- A value, both ways. -/
theorem val_same (r : List UInt8) : (∀ l q, rVal r = (some l, q) → pEq r = (l, q, 0) ∧ 1 ≤ l.length) ∧ ((rVal r).1 = none → (pEq r).2.2 = 3 ∨ ((pEq r).2.2 = 0 ∧ tk [41] (pEq r).2.1 = false)) := by
  induction hn : r.length using Nat.strongRecOn generalizing r with
  | _ n ih =>
    have hin : ∀ (x : UInt8) (l : List (List UInt8)), (inHead x l).length = l.length := fun x l => by cases l <;> rfl
    cases r with
    | nil =>
      refine ⟨fun l q h => ?_, fun h => by simp [rVal] at h⟩
      simp only [rVal, Prod.mk.injEq, Option.some.injEq] at h
      obtain ⟨rfl, rfl⟩ := h
      unfold pEq
      rw [pVal_nil, pStars_nil]
      exact ⟨rfl, by simp⟩
    | cons c t =>
      simp only [List.length_cons] at hn
      by_cases h41 : c = 41
      · subst h41
        rw [rVal_close]
        refine ⟨fun l q h => ?_, fun h => by simp at h⟩
        simp only [Prod.mk.injEq, Option.some.injEq] at h
        obtain ⟨rfl, rfl⟩ := h
        unfold pEq
        rw [pVal_stop rfl, pStars_no (by simp)]
        exact ⟨rfl, by simp⟩
      by_cases h40 : c = 40
      · subst h40
        rw [rVal_bad t (.inl rfl)]
        refine ⟨fun l q h => by simp at h, fun _ => .inr ?_⟩
        unfold pEq
        rw [pVal_stop rfl, pStars_no (by simp)]
        exact ⟨rfl, rfl⟩
      by_cases h0 : c = 0
      · subst h0
        rw [rVal_bad t (.inr rfl)]
        refine ⟨fun l q h => by simp at h, fun _ => .inl ?_⟩
        unfold pEq
        rw [pVal_zero, pStars_bad (by simp)]
      by_cases h42 : c = 42
      · subst h42
        have hr := rVal_star t
        have hp : pEq (42 :: t) = ([] :: (pEq t).1, (pEq t).2) := by
          unfold pEq
          rw [pVal_stop rfl, pStars_star]
        obtain ⟨i1, i2⟩ := ih _ (by omega) t rfl
        rw [hr, hp]
        refine ⟨fun l q h => ?_, fun h => i2 (by simpa using h)⟩
        simp only [Prod.mk.injEq, Option.map_eq_some_iff] at h
        obtain ⟨⟨l', h1, rfl⟩, rfl⟩ := h
        obtain ⟨e1, e2⟩ := i1 l' (rVal t).2 (by rw [← h1])
        rw [e1]
        exact ⟨rfl, by simp⟩
      have hst : stopV c = false := by unfold stopV; simp [h41, h40, h42]
      by_cases h92 : c = 92
      · subst h92
        cases he : escR t with
        | none =>
          obtain ⟨e1, e2⟩ := esc_no he
          refine ⟨fun l q h => by rw [h] at e2; simp at e2, fun _ => .inl ?_⟩
          unfold pEq
          rw [pStars_bad (by rw [e1]; decide)]
          exact e1
        | some x =>
          obtain ⟨x, t'⟩ := x
          obtain ⟨e1, e2, e3⟩ := esc_yes he
          have hp : pEq (92 :: t) = (inHead x (pEq t').1, (pEq t').2) := by unfold pEq; rw [e1]; rfl
          obtain ⟨i1, i2⟩ := ih _ (by omega) t' rfl
          rw [e3, hp]
          refine ⟨fun l q h => ?_, fun h => i2 (by simpa using h)⟩
          simp only [Prod.mk.injEq, Option.map_eq_some_iff] at h
          obtain ⟨⟨l', h1, rfl⟩, rfl⟩ := h
          obtain ⟨k1, k2⟩ := i1 l' (rVal t').2 (by rw [← h1])
          rw [k1]
          exact ⟨rfl, by rw [hin]; exact k2⟩
      · have hr : rVal (c :: t) = ((rVal t).1.map (inHead c), (rVal t).2) := rVal_plain h41 h40 h0 h42 h92
        have hp : pEq (c :: t) = (inHead c (pEq t).1, (pEq t).2) := by unfold pEq; rw [pVal_plain hst h0 h92]; rfl
        obtain ⟨i1, i2⟩ := ih _ (by omega) t rfl
        rw [hr, hp]
        refine ⟨fun l q h => ?_, fun h => i2 (by simpa using h)⟩
        simp only [Prod.mk.injEq, Option.map_eq_some_iff] at h
        obtain ⟨⟨l', h1, rfl⟩, rfl⟩ := h
        obtain ⟨k1, k2⟩ := i1 l' (rVal t).2 (by rw [← h1])
        rw [k1]
        exact ⟨rfl, by rw [hin]; exact k2⟩
/-- A value that stands alone, both ways. -/
theorem one_same (r : List UInt8) : (∀ l q, rVal r = (some l, q) → l.length = 1 → pVal r = (l.getD 0 [], q, 0)) ∧ ((∀ l q, rVal r = (some l, q) → 1 < l.length) → (pVal r).2.2 = 3 ∨ ((pVal r).2.2 = 0 ∧ tk [41] (pVal r).2.1 = false)) := by
  obtain ⟨h1, h2⟩ := val_same r
  have hs : ∀ x e, (pStars x e).1 = [] → pStars x e = ([], x, e) := by
    intro x e h
    cases x with
    | nil => exact pStars_nil e
    | cons c t =>
      by_cases hc : e = 0 ∧ c = 42
      · obtain ⟨rfl, rfl⟩ := hc
        rw [pStars_star] at h; simp at h
      · exact pStars_no hc
  have hs2 : ∀ x, (pStars x 0).1 ≠ [] → tk [41] x = false := by
    intro x h
    cases x with
    | nil => rfl
    | cons c t =>
      by_cases hc : (0 : Int) = 0 ∧ c = 42
      · rw [hc.2]; rfl
      · rw [pStars_no hc] at h; simp at h
  refine ⟨fun l q h hl => ?_, fun h => ?_⟩
  · obtain ⟨e1, _⟩ := h1 l q h
    unfold pEq at e1
    simp only [Prod.mk.injEq] at e1
    obtain ⟨k1, k2⟩ := e1
    have hnil : (pStars (pVal r).2.1 (pVal r).2.2).1 = [] := by
      rw [← k1] at hl
      simpa using hl
    rw [hs _ _ hnil] at k1 k2
    subst k1
    have : pVal r = ((pVal r).1, (pVal r).2) := rfl
    rw [this]
    simp only [List.getD_cons_zero, Prod.mk.injEq, true_and]
    exact k2
  · by_cases he3 : (pVal r).2.2 = 3
    · exact .inl he3
    have he : (pVal r).2.2 = 0 := (pVal_e r).resolve_right he3
    refine .inr ⟨he, ?_⟩
    by_cases hnil : (pStars (pVal r).2.1 (pVal r).2.2).1 = []
    · have hse := hs _ _ hnil
      cases hrv : rVal r with
      | mk o q =>
        cases o with
        | some l =>
          have hl := h l q hrv
          obtain ⟨e1, _⟩ := h1 l q hrv
          unfold pEq at e1
          rw [hse] at e1
          simp only [Prod.mk.injEq] at e1
          rw [← e1.1] at hl
          simp at hl
        | none =>
          have h3 := h2 (by rw [hrv])
          unfold pEq at h3
          rw [hse] at h3
          rcases h3 with h3 | h3
          · exact absurd h3 he3
          · exact h3.2
    · rw [he] at hnil
      exact hs2 _ hnil
/-- Two outcomes: the same error; without one the same filter, and the same is left. -/
structure Rel (x y : Fil × St) : Prop where
  e : x.2.2 = y.2.2
  f : x.2.2 = 0 → x.1 = y.1 ∧ x.2.1 = y.2.1
theorem Rel.err {x y : Fil × St} {c : Int} (h1 : x.2.2 = c) (h2 : y.2.2 = c) (hc : c ≠ 0) : Rel x y := ⟨h1.trans h2.symm, fun h => absurd (h1.symm.trans h) hc⟩
theorem closeP_bad {x : Fil × St} {c : Int} (h : x.2.2 = c) (hc : c ≠ 0) : (closeP x).2.2 = c := by unfold closeP; rw [if_neg (by rw [h]; exact hc)]; exact h
theorem closeR_bad {x : Fil × St} {c : Int} (h : x.2.2 = c) (hc : c ≠ 0) : (closeR x).2.2 = c := by unfold closeR; rw [if_neg (by rw [h]; exact hc)]; exact h
theorem closeP_no {x : Fil × St} (h : x.2.2 = 0) (hc : tk [41] x.2.1 = false) : (closeP x).2.2 = 3 := by unfold closeP; rw [if_pos h, if_neg (by rw [hc]; simp)]
theorem Rel.close {x y : Fil × St} (h : Rel x y) : Rel (closeP x) (closeR y) := by
  by_cases h0 : x.2.2 = 0
  · obtain ⟨h1, h2⟩ := h.f h0
    have h0' : y.2.2 = 0 := h.e.symm.trans h0
    cases hc : tk [41] x.2.1 with
    | true =>
      have hc' : tk [41] y.2.1 = true := by rw [← h2]; exact hc
      unfold closeP closeR
      rw [if_pos h0, if_pos h0', if_pos hc, if_pos hc', h1, h2]
      exact ⟨rfl, fun _ => ⟨rfl, rfl⟩⟩
    | false =>
      have hc' : tk [41] y.2.1 = false := by rw [← h2]; exact hc
      refine .err (c := 3) (closeP_no h0 hc) ?_ (by decide)
      unfold closeR
      rw [if_pos h0', if_neg (by rw [hc']; simp)]
  · exact .err (c := x.2.2) (closeP_bad rfl h0) (closeR_bad h.e.symm h0) h0
/-! ### items -/
theorem takeWhile_cut {α : Type} {p q : α → Bool} : ∀ {r : List α}, (r.takeWhile p).all q = true → (∀ c, p c = false → q c = false) → r.takeWhile q = r.takeWhile p ∧ r.dropWhile q = r.dropWhile p
  | [], _, _ => ⟨rfl, rfl⟩
  | c :: r, h, hpq => by
    by_cases hp : p c = true
    · rw [List.takeWhile_cons_of_pos hp, List.all_cons, Bool.and_eq_true] at h
      obtain ⟨i1, i2⟩ := takeWhile_cut h.2 hpq
      rw [List.takeWhile_cons_of_pos h.1, List.takeWhile_cons_of_pos hp, List.dropWhile_cons_of_pos h.1, List.dropWhile_cons_of_pos hp, i1, i2]
      exact ⟨rfl, rfl⟩
    · have hq : ¬ q c = true := by rw [hpq c (by simpa using hp)]; simp
      rw [List.takeWhile_cons_of_neg hq, List.takeWhile_cons_of_neg hp, List.dropWhile_cons_of_neg hq, List.dropWhile_cons_of_neg hp]
      exact ⟨rfl, rfl⟩
theorem sign_typ (c : UInt8) (h : noSign c = false) : typC c = false := by
  unfold noSign at h
  simp only [Bool.not_eq_false', Bool.or_eq_true, decide_eq_true_eq] at h
  rcases h with ((rfl | rfl) | rfl) | rfl <;> rfl
theorem takeWhile_cut2 {α : Type} {p q : α → Bool} : ∀ {r : List α}, (∀ c, q c = true → p c = true) → (∀ c t, r.dropWhile q = c :: t → p c = false) → r.takeWhile p = r.takeWhile q
  | [], _, _ => rfl
  | c :: r, hqp, hd => by
    by_cases hq : q c = true
    · rw [List.takeWhile_cons_of_pos (hqp c hq), List.takeWhile_cons_of_pos hq, takeWhile_cut2 hqp (fun d t e => hd d t (by rw [List.dropWhile_cons_of_pos hq]; exact e))]
    · have := hd c r (List.dropWhile_cons_of_neg hq)
      rw [List.takeWhile_cons_of_neg hq, List.takeWhile_cons_of_neg (by rw [this]; simp)]
theorem typB_all {t : List UInt8} (h : typB t = true) : t.all typC = true := ((Dn.typB_iff t).1 h).2
theorem typ_sign (c : UInt8) (h : typC c = true) : noSign c = true := by
  cases hn : noSign c with
  | true => rfl
  | false => rw [sign_typ c hn] at h; cases h
theorem tk2 {c d : UInt8} {r : List UInt8} : tk [c, d] r = true ↔ ∃ t, r = c :: d :: t := by
  cases r with
  | nil => simp [tk]
  | cons a t =>
    have h1 : tk [c, d] (a :: t) = (tk [c] (a :: t) && tk [d] t) := by
      unfold tk
      cases t <;> simp [List.isPrefixOf]
    rw [h1, Bool.and_eq_true, tk1, tk1]
    constructor
    · rintro ⟨⟨t1, e1⟩, ⟨t2, e2⟩⟩
      cases e1; exact ⟨t2, by rw [e2]⟩
    · rintro ⟨t2, e⟩
      cases e; exact ⟨⟨_, rfl⟩, ⟨_, rfl⟩⟩
theorem rItem_none {r : List UInt8} (h : (rTyp r).2.1 = 0) : (rItem r).2.2 = 3 := by unfold rItem; rw [if_pos h]
/-- What stands behind a type, both ways. -/
theorem rest_same {r : List UInt8} (t : List UInt8) (h : typB (r.takeWhile typC) = true) (ht : t = r.takeWhile typC) : Rel (closeP (pRest t (r.dropWhile typC))) (closeR (rItem r)) := by
  subst ht
  generalize hq : r.dropWhile typC = q
  have hT : rTyp r = if tk [61] (signT q) = true then (r.takeWhile typC, signC q, (signT q).drop 1) else ([], 0, signT q) := by unfold rTyp; rw [if_pos h, hq]
  -- a value behind a sign of two bytes
  have two : ∀ (c : UInt8) (q' : List UInt8) (k : Int), rTyp r = (r.takeWhile typC, c, q') → c ≠ 0 → c ≠ 61 → (∀ l : List (List UInt8), l.length = 1 → rMk (r.takeWhile typC) c l = .mk k (r.takeWhile typC) (l.getD 0 []) [] []) →
      Rel (closeP (.mk k (r.takeWhile typC) (pVal q').1 [] [], (pVal q').2)) (closeR (rItem r)) := by
    intro c q' k hr h0 h61 hmk
    obtain ⟨o1, o2⟩ := one_same q'
    have hri : rItem r = rFin (r.takeWhile typC) c (rVal q') := by
      unfold rItem; rw [hr]; exact if_neg h0
    have bad : (∀ l x, rVal q' = (some l, x) → 1 < l.length) → Rel (closeP (.mk k (r.takeWhile typC) (pVal q').1 [] [], (pVal q').2)) (closeR (rItem r)) := by
      intro hb
      have hr3 : (rItem r).2.2 = 3 := by
        rw [hri]
        cases hv : rVal q' with
        | mk o x =>
          cases o with
          | none => rfl
          | some l => rw [rFin_some, if_pos ⟨h61, hb l x hv⟩]
      refine .err (c := 3) ?_ (closeR_bad hr3 (by decide)) (by decide)
      rcases o2 hb with e | ⟨e1, e2⟩
      · exact closeP_bad e (by decide)
      · exact closeP_no e1 e2
    cases hv : rVal q' with
    | mk o x =>
      cases o with
      | none => exact bad (fun l y hy => by rw [hv] at hy; simp at hy)
      | some l =>
        have hl := ((val_same q').1 l x hv).2
        by_cases hl1 : l.length = 1
        · have hp := o1 l x hv hl1
          have hr2 : rItem r = (.mk k (r.takeWhile typC) (l.getD 0 []) [] [], x, 0) := by
            rw [hri, hv, rFin_some, if_neg (by omega), hmk l hl1]
          rw [hp, hr2]
          exact Rel.close ⟨rfl, fun _ => ⟨rfl, rfl⟩⟩
        · exact bad (fun l' y hy => by rw [hv] at hy; simp only [Prod.mk.injEq, Option.some.injEq] at hy; rw [← hy.1]; omega)
  have none3 : (rTyp r).2.1 = 0 → (pRest (r.takeWhile typC) q).2.2 = 3 → Rel (closeP (pRest (r.takeWhile typC) q)) (closeR (rItem r)) := fun h1 h2 =>
    .err (c := 3) (closeP_bad h2 (by decide)) (closeR_bad (rItem_none h1) (by decide)) (by decide)
  cases q with
  | nil => exact none3 (by rw [hT]; rfl) rfl
  | cons a q1 =>
    by_cases h61 : a = 61
    · subst h61
      have hr : rTyp r = (r.takeWhile typC, 61, q1) := by rw [hT]; rfl
      have hp : pRest (r.takeWhile typC) (61 :: q1) = (mkEq (r.takeWhile typC) (pEq q1).1, (pEq q1).2) := rfl
      have hri : rItem r = rFin (r.takeWhile typC) 61 (rVal q1) := by
        unfold rItem; rw [hr]; exact if_neg (by simp)
      obtain ⟨v1, v2⟩ := val_same q1
      rw [hp]
      cases hv : rVal q1 with
      | mk o x =>
        cases o with
        | none =>
          have hr3 : (rItem r).2.2 = 3 := by rw [hri, hv]; rfl
          refine .err (c := 3) ?_ (closeR_bad hr3 (by decide)) (by decide)
          rcases v2 (by rw [hv]) with e | ⟨e1, e2⟩
          · exact closeP_bad e (by decide)
          · exact closeP_no e1 e2
        | some l =>
          obtain ⟨e1, e2⟩ := v1 l x hv
          have hmk : mkEq (r.takeWhile typC) l = rMk (r.takeWhile typC) 61 l := by
            unfold mkEq rMk
            rw [if_neg (c := (61 : UInt8) = 62) (by decide), if_neg (c := (61 : UInt8) = 60) (by decide)]
            by_cases h1 : l.length = 1
            · rw [if_pos h1, if_neg (by omega), if_neg (by omega)]
            · rw [if_neg h1]
              by_cases h2 : l.length = 2 ∧ l.getD 0 [] = [] ∧ l.getD 1 [] = []
              · rw [if_pos h2, if_pos h2]
              · rw [if_neg h2, if_neg h2, if_pos (by omega)]
          have hr2 : rItem r = (rMk (r.takeWhile typC) 61 l, x, 0) := by rw [hri, hv, rFin_some, if_neg (by simp)]
          rw [e1, hr2]
          exact Rel.close ⟨rfl, fun _ => ⟨hmk, rfl⟩⟩
    · have sg : ∀ (c : UInt8), (c = 62 ∨ c = 60 ∨ c = 126) → a = c → ∀ k : Int, (∀ l : List (List UInt8), l.length = 1 → rMk (r.takeWhile typC) c l = .mk k (r.takeWhile typC) (l.getD 0 []) [] []) → (∀ q2, pRest (r.takeWhile typC) (c :: 61 :: q2) = (.mk k (r.takeWhile typC) (pVal q2).1 [] [], (pVal q2).2)) → (∀ q2, tk [61] q2 = false → (pRest (r.takeWhile typC) (c :: q2)).2.2 = 3) → Rel (closeP (pRest (r.takeWhile typC) (a :: q1))) (closeR (rItem r)) := by
        intro c hc hac k hmk hpr hpn
        subst hac
        have hsT : signT (a :: q1) = q1 := by rcases hc with rfl | rfl | rfl <;> rfl
        have hsC : signC (a :: q1) = a := by rcases hc with rfl | rfl | rfl <;> rfl
        cases hq1 : tk [61] q1 with
        | true =>
          obtain ⟨q2, rfl⟩ := tk1.1 hq1
          rw [hpr q2]
          refine two a q2 k ?_ (by rcases hc with rfl | rfl | rfl <;> decide) h61 hmk
          rw [hT, hsT, hsC, hq1]; rfl
        | false =>
          refine none3 ?_ (hpn q1 hq1)
          rw [hT, hsT, hq1]; rfl
      have pn : ∀ c : UInt8, c ≠ 61 → ∀ q2, tk [61] q2 = false → (pRest (r.takeWhile typC) (c :: q2)).2.2 = 3 := by
        intro c hc q2 hq2
        have n1 : ∀ d : UInt8, ¬ tk [d, 61] (c :: q2) = true := fun d hd => by
          obtain ⟨t, e⟩ := tk2.1 hd
          cases e
          rw [tk1_cons] at hq2; simp at hq2
        unfold pRest
        rw [if_neg (by rw [tk1_cons]; simpa using hc), if_neg (n1 62), if_neg (n1 60), if_neg (n1 126)]
      by_cases h62 : a = 62
      · exact sg 62 (by simp) h62 5 (fun l _ => rfl) (fun q2 => rfl) (pn 62 (by decide))
      by_cases h60 : a = 60
      · exact sg 60 (by simp) h60 6 (fun l _ => rfl) (fun q2 => rfl) (pn 60 (by decide))
      by_cases h126 : a = 126
      · refine sg 126 (by simp) h126 3 (fun l hl => ?_) (fun q2 => rfl) (pn 126 (by decide))
        unfold rMk
        rw [if_neg (c := (126 : UInt8) = 62) (by decide), if_neg (c := (126 : UInt8) = 60) (by decide), if_neg (by omega), if_neg (by omega)]
      · have hsT : signT (a :: q1) = a :: q1 := by
          unfold signT
          rw [if_neg (by simp [tk1_cons, h62, h60, h126])]
        refine none3 (by rw [hT, hsT, tk1_cons]; simp [h61]) ?_
        have n1 : ∀ d e : UInt8, a ≠ d → ¬ tk [d, e] (a :: q1) = true := fun d e hd hh => by
          obtain ⟨t, ee⟩ := tk2.1 hh
          cases ee; exact hd rfl
        unfold pRest
        rw [if_neg (by rw [tk1_cons]; simpa using h61), if_neg (n1 62 61 h62), if_neg (n1 60 61 h60), if_neg (n1 126 61 h126)]
theorem item_same (r : List UInt8) : Rel (closeP (pItem r)) (closeR (rItem r)) := by
  by_cases h : typB (r.takeWhile noSign) = true
  · obtain ⟨e1, e2⟩ := takeWhile_cut (p := noSign) (q := typC) (typB_all h) sign_typ
    have hp : pItem r = pRest (r.takeWhile noSign) (r.dropWhile noSign) := by
      unfold pItem pKind; dsimp only; rw [if_pos h]; rfl
    rw [hp, ← e2]
    exact rest_same _ (by rw [e1]; exact h) e1.symm
  · have hp : (pItem r).2.2 = 3 := by
      unfold pItem pKind; dsimp only; rw [if_neg h]; rfl
    refine .err (c := 3) (closeP_bad hp (by decide)) (closeR_bad (rItem_none ?_) (by decide)) (by decide)
    unfold rTyp
    by_cases ht : typB (r.takeWhile typC) = true
    · rw [if_pos ht]
      by_cases hs : tk [61] (signT (r.dropWhile typC)) = true
      · exfalso
        refine h ?_
        rw [takeWhile_cut2 (p := noSign) (q := typC) typ_sign (fun c t e => ?_)]
        · exact ht
        · rw [e] at hs
          unfold signT at hs
          by_cases hc : tk [62] (c :: t) = true ∨ tk [60] (c :: t) = true ∨ tk [126] (c :: t) = true
          · simp only [tk1_cons, decide_eq_true_eq] at hc
            unfold noSign
            rcases hc with rfl | rfl | rfl <;> rfl
          · rw [if_neg hc, tk1_cons, decide_eq_true_eq] at hs
            subst hs; rfl
      · rw [if_neg hs]
    · rw [if_neg ht]
/-! ### filters within filters -/
structure RelL (x y : List Fil × St) : Prop where
  e : x.2.2 = y.2.2
  f : x.2.2 = 0 → x.1 = y.1 ∧ x.2.1 = y.2.1
theorem loop_same {pf rf : List UInt8 → Fil × St} (h : ∀ r, Rel (pf r) (rf r)) {k : Int} (hk : k ≠ 2) : ∀ (n : Nat) (acc : List Fil) (r : List UInt8), RelL (kLoop pf k n acc r) (rLoop rf n acc r)
  | 0, acc, r => ⟨rfl, fun _ => ⟨rfl, rfl⟩⟩
  | n + 1, acc, r => by
    have hr := h r
    unfold kLoop rLoop
    by_cases h0 : (pf r).2.2 = 0
    · obtain ⟨h1, h2⟩ := hr.f h0
      have h0' : (rf r).2.2 = 0 := hr.e.symm.trans h0
      rw [h1, h2]
      by_cases hc : tk [40] (rf r).2.1 = true
      · rw [if_pos ⟨h0, hk, hc⟩, if_pos ⟨h0', hc⟩]
        exact loop_same h hk n _ _
      · rw [if_neg (fun x => hc x.2.2), if_neg (fun x => hc x.2)]
        exact ⟨hr.e, fun _ => ⟨rfl, h2⟩⟩
    · rw [if_neg (fun x => h0 x.1), if_neg (fun x => h0 (hr.e.trans x.1))]
      exact ⟨hr.e, fun x => absurd x h0⟩
theorem kids_same {pf rf : List UInt8 → Fil × St} (h : ∀ r, Rel (pf r) (rf r)) {k : Int} (hk : k ≠ 2) (r : List UInt8) : Rel (pKids pf k r) (rKids rf k r) := by
  have := loop_same h hk (r.length + 1) [] r
  unfold pKids rKids
  exact ⟨this.e, fun h0 => ⟨by dsimp only; rw [(this.f h0).1], (this.f h0).2⟩⟩
theorem not_same {pf rf : List UInt8 → Fil × St} (h : ∀ r, Rel (pf r) (rf r)) (r : List UInt8) : Rel (pKids pf 2 r) (.mk 2 [] [] [] [(rf r).1], (rf r).2) := by
  have e : kLoop pf 2 (r.length + 1) [] r = ([(pf r).1], (pf r).2) := by
    unfold kLoop; rw [if_neg (fun x => x.2.1 rfl)]; rfl
  unfold pKids
  rw [e]
  exact ⟨(h r).e, fun h0 => ⟨by dsimp only; rw [((h r).f h0).1], ((h r).f h0).2⟩⟩
theorem filt_same : ∀ (d : Nat) (r : List UInt8), Rel (pFilt d r) (rFilt d r)
  | 0, r => by
    unfold pFilt rFilt
    exact ⟨rfl, fun _ => ⟨rfl, rfl⟩⟩
  | d + 1, r => by
    unfold pFilt rFilt
    by_cases h : tk [40] r = true
    · rw [if_pos h, if_pos h]
      unfold pBody rBody
      by_cases h1 : tk [38] (r.drop 1) = true
      · rw [if_pos h1, if_pos h1]; exact (kids_same (filt_same d) (by decide) _).close
      rw [if_neg h1, if_neg h1]
      by_cases h2 : tk [124] (r.drop 1) = true
      · rw [if_pos h2, if_pos h2]; exact (kids_same (filt_same d) (by decide) _).close
      rw [if_neg h2, if_neg h2]
      by_cases h3 : tk [33] (r.drop 1) = true
      · rw [if_pos h3, if_pos h3]; exact (not_same (filt_same d) _).close
      rw [if_neg h3, if_neg h3]
      exact item_same _
    · rw [if_neg h, if_neg h]
      exact ⟨rfl, fun _ => ⟨rfl, rfl⟩⟩
/-- The program's parser is the document's. -/
theorem parse_same (s : List UInt8) : pParse s = rParse s := by
  have h := filt_same 16 s
  unfold pParse rParse
  by_cases h0 : (pFilt 16 s).2.2 = 0
  · obtain ⟨h1, h2⟩ := h.f h0
    have h0' : (rFilt 16 s).2.2 = 0 := h.e.symm.trans h0
    rw [if_neg (c := (pFilt 16 s).2.2 ≠ 0) (by rw [h0]; simp), if_neg (c := (rFilt 16 s).2.2 ≠ 0) (by rw [h0']; simp), h1, h2]
  · rw [if_pos h0, if_pos (by rw [← h.e]; exact h0), h.e]
end Go.Fi
