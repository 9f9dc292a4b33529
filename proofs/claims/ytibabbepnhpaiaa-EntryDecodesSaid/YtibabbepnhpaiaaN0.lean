/-
  The plain functions of entry: entries as bytes. Nothing here speaks of a program; no conditions.
-/
import Derived.Test.YtibabbepnhpaiaaD0
import Derived.Test.YtibabbepnhpaiaaO0
set_option linter.unusedVariables false
namespace Go.En
open Go.Vk Go.Oct
open Go.Dn (Ava cAva typB isE okA)
/-- An attribute; an entry. -/
structure Attr where
  typ : List UInt8
  vals : List (List UInt8)
instance : Inhabited Attr := ⟨⟨[], []⟩⟩
abbrev cS (s : List UInt8) : List Ty := [Is (str s)]
def cAttr (a : Attr) : List Ty := [Is (str a.typ), TSl 1 cS a.vals]
structure Entry where
  dn : List Ava
  attrs : List Attr
def cEnt (e : Entry) : List Ty := [TSl 2 cAva e.dn, TSl 2 cAttr e.attrs]
def okV (v : List UInt8) : Bool := decide ((v.length : Int) ≤ 256)
def okT (a : Attr) : Bool := typB a.typ && decide (1 ≤ (a.vals.length : Int)) && decide ((a.vals.length : Int) ≤ 16) && a.vals.all okV
def isN (e : Entry) : Bool := isE e.dn && decide ((e.attrs.length : Int) ≤ 16) && e.attrs.all okT
def avaB (a : Ava) : List UInt8 := bytB a.typ ++ bytB a.val
def attrB (a : Attr) : List UInt8 := bytB a.typ ++ numB a.vals.length ++ a.vals.flatMap bytB
def encB (e : Entry) : List UInt8 := numB e.dn.length ++ e.dn.flatMap avaB ++ numB e.attrs.length ++ e.attrs.flatMap attrB
/-! ### lists -/
section
variable {α : Type}
theorem getD_mem [Inhabited α] {l : List α} {i : Nat} (h : i < l.length) : l.getD i default ∈ l := by
  rw [List.getD_eq_getElem?_getD, List.getElem?_eq_getElem h]; exact List.getElem_mem h
theorem flat_snoc [Inhabited α] {β : Type} {l : List α} {i : Nat} (f : α → List β) (h : i < l.length) : (l.take (i + 1)).flatMap f = (l.take i).flatMap f ++ f (l.getD i default) := by
  rw [List.take_succ_eq_append_getElem h, List.flatMap_append, List.getD_eq_getElem?_getD, List.getElem?_eq_getElem h]; simp
theorem flat_end {β : Type} {l : List α} {i : Nat} (f : α → List β) (h : ¬ i < l.length) : (l.take i).flatMap f = l.flatMap f := by
  rw [List.take_of_length_le (by omega)]
theorem flat_len {β : Type} {l : List α} {f : α → List β} {k : Nat} (h : ∀ a ∈ l, (f a).length ≤ k) : (l.flatMap f).length ≤ l.length * k := by
  induction l with
  | nil => simp
  | cons a l ih =>
    have h1 := h a (by simp)
    have h2 := ih (fun b hb => h b (by simp [hb]))
    rw [List.flatMap_cons, List.length_append, List.length_cons, Nat.succ_mul]
    omega
theorem flat_take {β : Type} {l : List α} {f : α → List β} {k n : Nat} (h : ∀ a ∈ l, (f a).length ≤ k) (hn : l.length ≤ n) (i : Nat) : ((l.take i).flatMap f).length ≤ n * k := by
  refine Nat.le_trans (flat_len (k := k) fun a ha => h a (List.mem_of_mem_take ha)) (Nat.mul_le_mul_right k ?_)
  rw [List.length_take]; omega
theorem all_snoc [Inhabited α] {p : α → Bool} {l : List α} {i : Nat} (h : i < l.length) (h1 : (l.take i).all p = true) (h2 : p (l.getD i default) = true) : (l.take (i + 1)).all p = true := by
  rw [List.take_succ_eq_append_getElem h, List.all_append, h1]
  rw [List.getD_eq_getElem?_getD, List.getElem?_eq_getElem h] at h2
  simpa using h2
theorem all_no [Inhabited α] {p : α → Bool} {l : List α} {i : Nat} (h : i < l.length) (h1 : p (l.getD i default) = false) : l.all p = false := by
  rw [List.all_eq_false]; exact ⟨_, getD_mem h, by rw [h1]; simp⟩
def ixOf (p : α → Bool) (l : List α) : Int := if l.any p = true then (l.findIdx p : Int) else -1
theorem any_snoc [Inhabited α] {p : α → Bool} {l : List α} {i : Nat} (h : i < l.length) (h1 : (l.take i).any p = false) (h2 : p (l.getD i default) = false) : (l.take (i + 1)).any p = false := by
  rw [List.take_succ_eq_append_getElem h, List.any_append, h1]
  rw [List.getD_eq_getElem?_getD, List.getElem?_eq_getElem h] at h2
  simpa using h2
theorem ixOf_none {p : α → Bool} {l : List α} (h : l.any p = false) : ixOf p l = -1 := by unfold ixOf; rw [h]; rfl
theorem ixOf_at [Inhabited α] {p : α → Bool} {l : List α} {i : Nat} (h : i < l.length) (h1 : (l.take i).any p = false) (h2 : p (l.getD i default) = true) : ixOf p l = i := by
  have h3 : p l[i] = true := by rw [List.getD_eq_getElem?_getD, List.getElem?_eq_getElem h] at h2; exact h2
  have h4 : l.any p = true := List.any_eq_true.2 ⟨l[i], List.getElem_mem h, h3⟩
  unfold ixOf
  rw [if_pos h4]
  congr 1
  rw [List.findIdx_eq h]
  refine ⟨h3, fun j hj => ?_⟩
  rw [List.any_eq_false] at h1
  have := h1 (l[j]) (List.mem_take_iff_getElem.2 ⟨j, by omega, rfl⟩)
  simpa using this
theorem ixOf_nonneg {p : α → Bool} {l : List α} : decide (0 ≤ ixOf p l) = l.any p := by
  unfold ixOf
  cases h : l.any p
  · rfl
  · simp
end
section
variable {α : Type} [Inhabited α]
theorem take_ext {l m : List α} {i : Nat} (h : i < l.length) (hc : l.length = m.length) (he : l.take i = m.take i) (h2 : l.getD i default = m.getD i default) : l.take (i + 1) = m.take (i + 1) := by
  have h' : i < m.length := by omega
  rw [List.getD_eq_getElem?_getD, List.getElem?_eq_getElem h, List.getD_eq_getElem?_getD, List.getElem?_eq_getElem h'] at h2
  have h3 : l[i] = m[i] := h2
  rw [List.take_succ_eq_append_getElem h, List.take_succ_eq_append_getElem h', he, h3]
end
theorem take_all {α : Type} {l m : List α} {i : Nat} (h : ¬ (i : Int) < (l.length : Int)) (hc : l.length = m.length) (he : l.take i = m.take i) : l = m := by
  rwa [List.take_of_length_le (by omega), List.take_of_length_le (by omega)] at he
theorem Attr.ext' {a b : Attr} (h1 : a.typ = b.typ) (h2 : a.vals = b.vals) : a = b := by cases a; cases b; simp at h1 h2; rw [h1, h2]
instance : DecidableEq Attr := fun a b => decidable_of_iff (a.typ = b.typ ∧ a.vals = b.vals) ⟨fun h => Attr.ext' h.1 h.2, fun h => by rw [h]; exact ⟨rfl, rfl⟩⟩
theorem Entry.ext' {a b : Entry} (h1 : a.dn = b.dn) (h2 : a.attrs = b.attrs) : a = b := by cases a; cases b; simp at h1 h2; rw [h1, h2]
instance : DecidableEq Entry := fun a b => decidable_of_iff (a.dn = b.dn ∧ a.attrs = b.attrs) ⟨fun h => Entry.ext' h.1 h.2, fun h => by rw [h]; exact ⟨rfl, rfl⟩⟩
theorem okT_any (a : Attr) : okT a = (typB a.typ && decide (1 ≤ (a.vals.length : Int)) && decide ((a.vals.length : Int) ≤ 16) && !a.vals.any (fun v => decide (256 < (v.length : Int)))) := by
  unfold okT
  rw [List.not_any_eq_all_not]
  congr 2
  funext v
  unfold okV
  by_cases h : (v.length : Int) ≤ 256
  · have : ¬ 256 < (v.length : Int) := by omega
    simp [h, this]
  · have : 256 < (v.length : Int) := by omega
    simp [h, this]
theorem isN_any (e : Entry) : isN e = (isE e.dn && decide ((e.attrs.length : Int) ≤ 16) && !e.attrs.any (fun a => !okT a)) := by
  unfold isN
  rw [List.not_any_eq_all_not]
  simp
theorem isN_no1 {e : Entry} (h : isE e.dn = false ∨ 16 < (e.attrs.length : Int)) : isN e = false := by
  unfold isN
  rcases h with h | h
  · rw [h]; simp
  · rw [decide_eq_false (p := (e.attrs.length : Int) ≤ 16) (by omega)]; simp
theorem isN_yes {e : Entry} (h1 : isE e.dn = true) (h2 : ¬ 16 < (e.attrs.length : Int)) (h3 : e.attrs.all okT = true) : isN e = true := by
  unfold isN
  rw [h1, h3, decide_eq_true (p := (e.attrs.length : Int) ≤ 16) (by omega)]; rfl
theorem isN_no2 {e : Entry} {i : Nat} (h : i < e.attrs.length) (h1 : okT (e.attrs.getD i default) = false) : isN e = false := by
  unfold isN
  rw [all_no h h1]; simp
theorem okT_no1 {a : Attr} (h : (typB a.typ = false ∨ (a.vals.length : Int) < 1) ∨ 16 < (a.vals.length : Int)) : okT a = false := by
  unfold okT
  rcases h with (h | h) | h
  · rw [h]; simp
  · rw [decide_eq_false (p := 1 ≤ (a.vals.length : Int)) (by omega)]; simp
  · rw [decide_eq_false (p := (a.vals.length : Int) ≤ 16) (by omega)]; simp
theorem okT_no2 {a : Attr} {i : Nat} (h : i < a.vals.length) (h1 : 256 < ((a.vals.getD i default).length : Int)) : okT a = false := by
  unfold okT
  rw [all_no (p := okV) h (decide_eq_false (by omega))]; simp
theorem okT_yes {a : Attr} (h1 : (typB a.typ = true ∧ ¬ (a.vals.length : Int) < 1) ∧ ¬ 16 < (a.vals.length : Int)) (h2 : a.vals.all okV = true) : okT a = true := by
  unfold okT
  rw [h1.1.1, h2, decide_eq_true (p := 1 ≤ (a.vals.length : Int)) (by omega), decide_eq_true (p := (a.vals.length : Int) ≤ 16) (by omega)]; rfl
theorem okV_yes {v : List UInt8} (h : ¬ 256 < (v.length : Int)) : okV v = true := decide_eq_true (by omega)
theorem ava_snoc {l : List Ava} {i : Nat} (h : i < l.length) : (l.take (i + 1)).flatMap avaB = (l.take i).flatMap avaB ++ (bytB (l.getD i default).typ ++ bytB (l.getD i default).val) := flat_snoc avaB h
theorem attr_snoc {l : List Attr} {i : Nat} (h : i < l.length) : (l.take (i + 1)).flatMap attrB = (l.take i).flatMap attrB ++ (bytB (l.getD i default).typ ++ numB (l.getD i default).vals.length ++ (l.getD i default).vals.flatMap bytB) := flat_snoc attrB h
/-- Nothing is too long to be walked through. -/
def sane (e : Entry) : Prop := e.dn.length ≤ 1152921504606846976 ∧ (∀ a ∈ e.dn, a.typ.length ≤ 1152921504606846976) ∧ e.attrs.length ≤ 1152921504606846976 ∧ ∀ a ∈ e.attrs, a.typ.length ≤ 1152921504606846976 ∧ a.vals.length ≤ 1152921504606846976
theorem bytB_len {l : List UInt8} {k : Nat} (h : l.length ≤ k) (hk : k ≤ 1000000) : (bytB l).length ≤ 9 + k := by
  have := numB_le (n := l.length) (by omega)
  unfold bytB
  rw [List.length_append]; omega
theorem typ_len {t : List UInt8} (h : typB t = true) : t.length ≤ 32 := by
  have := (Dn.typB_iff t).1 h
  omega
theorem okA_bd {a : Ava} (h : okA a = true) : a.typ.length ≤ 32 ∧ a.val.length ≤ 64 := by
  unfold okA at h
  simp only [Bool.and_eq_true, decide_eq_true_eq] at h
  exact ⟨typ_len h.1.1, by omega⟩
theorem okT_bd {a : Attr} (h : okT a = true) : a.typ.length ≤ 32 ∧ a.vals.length ≤ 16 ∧ ∀ v ∈ a.vals, v.length ≤ 256 := by
  unfold okT at h
  simp only [Bool.and_eq_true, decide_eq_true_eq, List.all_eq_true] at h
  refine ⟨typ_len h.1.1.1, by omega, fun v hv => ?_⟩
  have := h.2 v hv
  unfold okV at this
  simp only [decide_eq_true_eq] at this
  omega
theorem isN_bd {e : Entry} (h : isN e = true) : e.dn.length ≤ 12 ∧ (∀ a ∈ e.dn, a.typ.length ≤ 32 ∧ a.val.length ≤ 64) ∧ e.attrs.length ≤ 16 ∧ ∀ a ∈ e.attrs, a.typ.length ≤ 32 ∧ a.vals.length ≤ 16 ∧ ∀ v ∈ a.vals, v.length ≤ 256 := by
  unfold isN isE at h
  simp only [Bool.and_eq_true, decide_eq_true_eq, List.all_eq_true] at h
  exact ⟨by omega, fun a ha => okA_bd (h.1.1.2 a ha), by omega, fun a ha => okT_bd (h.2 a ha)⟩
theorem avaB_len {a : Ava} (h : a.typ.length ≤ 32 ∧ a.val.length ≤ 64) : (avaB a).length ≤ 200 := by
  have h1 := bytB_len (l := a.typ) (k := 32) h.1 (by omega)
  have h2 := bytB_len (l := a.val) (k := 64) h.2 (by omega)
  unfold avaB
  rw [List.length_append]; omega
theorem attrB_len {a : Attr} (h : a.typ.length ≤ 32 ∧ a.vals.length ≤ 16 ∧ ∀ v ∈ a.vals, v.length ≤ 256) : (attrB a).length ≤ 5000 := by
  have h1 := bytB_len (l := a.typ) (k := 32) h.1 (by omega)
  have h2 := flat_len (l := a.vals) (f := bytB) (k := 265) (fun v hv => bytB_len (k := 256) (h.2.2 v hv) (by omega))
  have h3 := numB_le (n := a.vals.length) (by omega)
  have h4 : a.vals.length * 265 ≤ 16 * 265 := Nat.mul_le_mul_right _ h.2.1
  unfold attrB
  rw [List.length_append, List.length_append]; omega
end Go.En
