/-
  Responses: the plain structure, as bytes and out of bytes; what is encoded is decoded; the program's and the document's readings agree.
  The contracts of the program's mayRes, EncodeRes, response, DecodeRes, SameRes, and of bytes.Equal.
  The contracts of the program's response and DecodeRes.
  The contracts of the document's readers: read, peek, body, num, flag, inner, end.
  The contracts of the document's readers: texts, attr.
-/
import Derived.Test.YtgaahjmgneallaaGreatGav
import Derived.Test.YtgaahjmgneallaaGreatGat
import Derived.Test.YtgaahjmgneallaaGreatGau
import Derived.Test.YtgaahjmgneallaaGreatGaq
set_option linter.unusedSimpArgs false
set_option linter.unusedVariables false
set_option linter.unusedVariables false
namespace Go.Ms
open Go.Vk
structure Rsp where
  num : Int
  kind : Int
  code : Int
  dn : List UInt8
  attrs : List En.Attr
deriving DecidableEq
abbrev cRsp (r : Rsp) : List Ty := [okI .i64 r.num, okI .i64 r.kind, okI .i64 r.code, Is (str r.dn), TSl 2 En.cAttr r.attrs]
def zP : Rsp := ⟨0, 0, 0, [], []⟩
instance : Inhabited Rsp := ⟨zP⟩
/-- What bounds a response. -/
structure Oks (r : Rsp) : Prop where
  num : okK r.num
  kind : okK r.kind
  code : okK r.code
  dn : r.dn.length ≤ 2000000
  attrs : sm wA r.attrs ≤ 90000000
def rkB (k : Int) : Bool := isIntZ k [1, 4, 5, 7, 9, 11, 13, 15, 24]
theorem rkB_iff {k : Int} : rkB k = true ↔ k = 1 ∨ k = 4 ∨ k = 5 ∨ k = 7 ∨ k = 9 ∨ k = 11 ∨ k = 13 ∨ k = 15 ∨ k = 24 := by
  unfold rkB isIntZ; simp
def mayB (r : Rsp) : Bool := numB r.num 0 && rkB r.kind && (decide (0 ≤ r.code) && decide (r.code ≤ 127)) && (if r.kind = 4 then decide (r.code = 0) else decide (r.dn = []) && decide (r.attrs = []))
def notice : List UInt8 := [b8 49, b8 46, b8 51, b8 46, b8 54, b8 46, b8 49, b8 46, b8 52, b8 46, b8 49, b8 46, b8 49, b8 52, b8 54, b8 54, b8 46, b8 50, b8 48, b8 48, b8 51, b8 54]
def tagR (k : Int) : UInt8 := b8 96 ||| b8 k
def codeB (c : Int) : List UInt8 := Ber.tagB 10 [Ber.intB c]
def restB (r : Rsp) : List UInt8 := if r.kind = 4 then Ber.tagB 100 [textB r.dn, attrsB r.attrs] else if r.kind = 24 then Ber.tagB 120 [codeB r.code, textB [], textB [], Ber.tagB 138 [notice]] else Ber.tagB (tagR r.kind) [codeB r.code, textB [], textB []]
def rspB (r : Rsp) : List UInt8 := Ber.tagB 48 [Ber.tagB 2 [Ber.intB r.num], restB r]
def encR (r : Rsp) : List UInt8 × Int := if mayB r = true then (if (rspB r).length ≤ 65536 then (rspB r, 0) else ([], 5)) else ([], 1)
/-! ### out of items -/
def rspK (k : Int) (l : List It) (bad : Bool) : Rsp × List It × Bool :=
  if k = 4 then (⟨0, 4, 0, (textI l bad).1, (attrsM true (textI l bad).2.1 (textI l bad).2.2).1⟩, (attrsM true (textI l bad).2.1 (textI l bad).2.2).2)
  else (⟨0, k, (numI l bad 10).1, [], []⟩, (numI l bad 10).2)
/-- The program's, behind the number. -/
def rspP : List It → Bool → Rsp × List It × Bool
  | x :: r, false => ((rspK ((x.1.toNat : Int) - 96) (allI x.2) (badI x.2)).1, r, (rspK ((x.1.toNat : Int) - 96) (allI x.2) (badI x.2)).2.2)
  | l, _ => (zP, l, true)
def withN (r : Rsp) (n : Int) : Rsp := { r with num := n }
def dcP (b : List UInt8) : Rsp × Int :=
  let n := Ber.nextB b
  if n.e ≠ 0 then (zP, n.e) else
  let m := numI (allI n.body) (badI n.body) 2
  let o := rspP m.2.1 m.2.2
  if o.2.2 = false ∧ encR (withN o.1 m.1) = (b, 0) then (withN o.1 m.1, 0) else (zP, 3)
/-- The document's. -/
def rspD (l : List It) (bad : Bool) : Rsp :=
  if peekI l bad = 100 then ⟨0, 4, 0, (textI (allI (takeI l bad 100).1) (badI (takeI l bad 100).1)).1, (attrsM false (textI (allI (takeI l bad 100).1) (badI (takeI l bad 100).1)).2.1 (textI (allI (takeI l bad 100).1) (badI (takeI l bad 100).1)).2.2).1⟩
  else ⟨0, ((peekI l bad).toNat : Int) - 96, (numR (allI (takeI l bad (peekI l bad)).1) (badI (takeI l bad (peekI l bad)).1) 10 0 127).1, [], []⟩
def dcD (b : List UInt8) : Rsp × Int :=
  let n := Ber.nextB b
  if n.e ≠ 0 then (zP, n.e) else
  let m := numR (allI n.body) (badI n.body) 2 0 mostN
  let r := withN (rspD m.2.1 m.2.2) m.1
  if n.tag = 48 ∧ n.rest = [] ∧ encR r = (b, 0) then (r, 0) else (zP, 3)
/-! ### what is encoded is decoded -/
def codeIt (c : Int) : It := (10, Ber.intB c)
def restIt (r : Rsp) : It := if r.kind = 4 then (100, bodyB [textIt r.dn, attrsIt r.attrs]) else if r.kind = 24 then (120, bodyB [codeIt r.code, textIt [], textIt [], (138, notice)]) else (tagR r.kind, bodyB [codeIt r.code, textIt [], textIt []])
theorem restB_it (r : Rsp) : restB r = itB (restIt r) := by
  unfold restB restIt
  split
  · rw [← tagB_it]; simp [attrsB_it, textB_it]
  split
  · rw [← tagB_it]; rfl
  · rw [← tagB_it]; rfl
theorem rspB_it (r : Rsp) : rspB r = itB (48, bodyB [(2, Ber.intB r.num), restIt r]) := by
  unfold rspB
  rw [restB_it, ← tagB_it]; rfl
theorem rest_tag {r : Rsp} (h : rkB r.kind = true) : Ber.TagOk (restIt r).1 ∧ (((restIt r).1.toNat : Int) - 96 = r.kind) ∧ ((restIt r).1 = 100 ↔ r.kind = 4) ∧ (restIt r).1 ≠ 0 := by
  unfold restIt
  rcases rkB_iff.1 h with h | h | h | h | h | h | h | h | h <;> rw [h] <;> simp only [Int.reduceEq, reduceIte] <;> decide +kernel
theorem mayB_of {r : Rsp} (h : mayB r = true) : (0 ≤ r.num ∧ r.num ≤ mostN) ∧ rkB r.kind = true ∧ (0 ≤ r.code ∧ r.code ≤ 127) ∧ (r.kind = 4 → r.code = 0) ∧ (r.kind ≠ 4 → r.dn = [] ∧ r.attrs = []) := by
  unfold mayB numB at h
  simp only [Bool.and_eq_true, decide_eq_true_eq] at h
  obtain ⟨⟨⟨h1, h2⟩, h3⟩, h4⟩ := h
  refine ⟨h1, h2, h3, fun hk => ?_, fun hk => ?_⟩
  · rw [if_pos hk] at h4; simpa using h4
  · rw [if_neg hk] at h4; simpa using h4
theorem rspK_back {r : Rsp} (h : mayB r = true) (hl : (restIt r).2.length < 65536) : (rspK r.kind (allI (restIt r).2) (badI (restIt r).2)).1 = withN r 0 ∧ (rspK r.kind (allI (restIt r).2) (badI (restIt r).2)).2.2 = false ∧
    (r.kind = 4 → badI (restIt r).2 = false ∧ allI (restIt r).2 = [textIt r.dn, attrsIt r.attrs] ∧ (attrsIt r.attrs).2.length < 65536) ∧ (r.kind ≠ 4 → badI (restIt r).2 = false ∧ ∃ q, allI (restIt r).2 = codeIt r.code :: q) := by
  obtain ⟨h1, h2, h3, h4, h5⟩ := mayB_of h
  have hok : okK r.code := by unfold okK; omega
  by_cases hk : r.kind = 4
  · have e : restIt r = (100, bodyB [textIt r.dn, attrsIt r.attrs]) := if_pos hk
    rw [e] at hl ⊢
    obtain ⟨a1, a2⟩ := body_all (l := [textIt r.dn, attrsIt r.attrs]) (by intro x hx; simp at hx; rcases hx with rfl | rfl <;> first | (show Ber.TagOk 4; decide) | (show Ber.TagOk 48; decide)) hl
    have w1 : (attrsIt r.attrs).2.length + 2 ≤ (bodyB [textIt r.dn, attrsIt r.attrs]).length := body_mem (by simp)
    dsimp only
    rw [a1, a2]
    unfold rspK
    rw [if_pos hk, text_back]
    dsimp only at hl ⊢
    rw [attrs_back [] (by omega)]
    refine ⟨?_, rfl, fun _ => ⟨rfl, rfl, by omega⟩, fun hn => absurd hk hn⟩
    have := h4 hk
    obtain ⟨num, kind, code, dn, attrs⟩ := r
    dsimp only at hk this ⊢
    subst hk; subst this; rfl
  · have key : ∀ q, (∀ x ∈ codeIt r.code :: q, Ber.TagOk x.1) → (bodyB (codeIt r.code :: q)).length < 65536 → (rspK r.kind (allI (bodyB (codeIt r.code :: q))) (badI (bodyB (codeIt r.code :: q)))).1 = withN r 0 ∧ (rspK r.kind (allI (bodyB (codeIt r.code :: q))) (badI (bodyB (codeIt r.code :: q)))).2.2 = false ∧ badI (bodyB (codeIt r.code :: q)) = false ∧ allI (bodyB (codeIt r.code :: q)) = codeIt r.code :: q := by
      intro q hq hlq
      obtain ⟨a1, a2⟩ := body_all hq hlq
      rw [a1, a2]
      unfold rspK
      rw [if_neg hk]
      have e := num_back (t := 10) hok q
      unfold codeIt at *
      rw [e]
      refine ⟨?_, rfl, rfl, rfl⟩
      obtain ⟨num, kind, code, dn, attrs⟩ := r
      obtain ⟨e1, e2⟩ := h5 hk
      dsimp only at e1 e2 ⊢
      subst e1; subst e2; rfl
    by_cases h24 : r.kind = 24
    · have e : restIt r = (120, bodyB [codeIt r.code, textIt [], textIt [], (138, notice)]) := by unfold restIt; rw [if_neg hk, if_pos h24]
      rw [e] at hl ⊢
      obtain ⟨k1, k2, k3, k4⟩ := key [textIt [], textIt [], (138, notice)] (by intro x hx; simp at hx; rcases hx with rfl | rfl | rfl <;> (first | decide | (show Ber.TagOk 10; decide))) hl
      exact ⟨k1, k2, fun hn => absurd hn hk, fun _ => ⟨k3, _, k4⟩⟩
    · have e : restIt r = (tagR r.kind, bodyB [codeIt r.code, textIt [], textIt []]) := by unfold restIt; rw [if_neg hk, if_neg h24]
      rw [e] at hl ⊢
      obtain ⟨k1, k2, k3, k4⟩ := key [textIt [], textIt []] (by intro x hx; simp at hx; rcases hx with rfl | rfl <;> (first | decide | (show Ber.TagOk 10; decide))) hl
      exact ⟨k1, k2, fun hn => absurd hn hk, fun _ => ⟨k3, _, k4⟩⟩
theorem rsp_next {r : Rsp} (hl : (rspB r).length ≤ 65536) : Ber.nextB (rspB r) = ⟨48, bodyB [(2, Ber.intB r.num), restIt r], [], 0⟩ ∧ (restIt r).2.length < 65536 ∧ (bodyB [(2, Ber.intB r.num), restIt r]).length < 65536 := by
  rw [rspB_it] at hl ⊢
  have w0 := it_len (48, bodyB [(2, Ber.intB r.num), restIt r])
  dsimp only at w0
  have e := Ber.back 48 (by decide) (bodyB [(2, Ber.intB r.num), restIt r]) [] (by omega)
  rw [List.append_nil] at e
  have w1 : (restIt r).2.length + 2 ≤ (bodyB [(2, Ber.intB r.num), restIt r]).length := body_mem (by simp)
  exact ⟨e, by omega, by omega⟩
theorem encR_ok {r : Rsp} {b : List UInt8} (h : encR r = (b, 0)) : mayB r = true ∧ (rspB r).length ≤ 65536 ∧ b = rspB r := by
  unfold encR at h
  split at h
  · split at h
    · rename_i h1 h2
      exact ⟨h1, h2, (Prod.mk.inj h).1.symm⟩
    · have := (Prod.mk.inj h).2; cases this
  · have := (Prod.mk.inj h).2; cases this
theorem encR_of {r : Rsp} (h : mayB r = true) (hl : (rspB r).length ≤ 65536) : encR r = (rspB r, 0) := by
  unfold encR; rw [if_pos h, if_pos hl]
theorem dcP_back {r : Rsp} (h : mayB r = true) (hl : (rspB r).length ≤ 65536) : dcP (rspB r) = (r, 0) := by
  obtain ⟨e, w1, w2⟩ := rsp_next hl
  obtain ⟨h1, h2, h3, h4, h5⟩ := mayB_of h
  obtain ⟨t1, t2, _, _⟩ := rest_tag h2
  have hok : okK r.num := by unfold okK mostN at *; omega
  obtain ⟨a1, a2⟩ := body_all (l := [(2, Ber.intB r.num), restIt r]) (by intro x hx; simp only [List.mem_cons, List.not_mem_nil, or_false] at hx; exact hx.elim (fun h => by rw [h]; (show Ber.TagOk 2); decide) (fun h => by rw [h]; exact t1)) w2
  obtain ⟨k1, k2, _⟩ := rspK_back h w1
  unfold dcP
  rw [e]
  dsimp only
  rw [a1, a2, num_back hok [restIt r]]
  have eo : rspP [restIt r] false = (withN r 0, [], false) := by
    show ((rspK (((restIt r).1.toNat : Int) - 96) (allI (restIt r).2) (badI (restIt r).2)).1, ([] : List It), (rspK (((restIt r).1.toNat : Int) - 96) (allI (restIt r).2) (badI (restIt r).2)).2.2) = _
    rw [t2, k1, k2]
  dsimp only
  rw [eo]
  have er : withN (withN r 0) r.num = r := rfl
  dsimp only
  rw [er, if_neg (by simp), if_pos ⟨rfl, encR_of h hl⟩]
theorem dcD_back {r : Rsp} (h : mayB r = true) (hl : (rspB r).length ≤ 65536) : dcD (rspB r) = (r, 0) := by
  obtain ⟨e, w1, w2⟩ := rsp_next hl
  obtain ⟨h1, h2, h3, h4, h5⟩ := mayB_of h
  obtain ⟨t1, t2, t3, t4⟩ := rest_tag h2
  have hok : okK r.num := by unfold okK mostN at *; omega
  have hoc : okK r.code := by unfold okK; omega
  obtain ⟨a1, a2⟩ := body_all (l := [(2, Ber.intB r.num), restIt r]) (by intro x hx; simp only [List.mem_cons, List.not_mem_nil, or_false] at hx; exact hx.elim (fun h => by rw [h]; (show Ber.TagOk 2); decide) (fun h => by rw [h]; exact t1)) w2
  obtain ⟨k1, k2, k3, k4⟩ := rspK_back h w1
  have en : numR [(2, Ber.intB r.num), restIt r] false 2 0 mostN = (r.num, [restIt r], false) := by
    have e := num_back (t := 2) hok [restIt r]
    rw [numR_of (by rw [e]) (by rw [e]; exact h1), e]
  have ep : peekI [restIt r] false = (restIt r).1 := by
    generalize restIt r = x; rfl
  have et : takeI [restIt r] false (restIt r).1 = ((restIt r).2, [], false) := by
    generalize restIt r = x; exact take_it x.1 x.2 []
  have er : withN (rspD [restIt r] false) r.num = r := by
    unfold rspD
    rw [ep]
    by_cases hk : r.kind = 4
    · have h100 := t3.2 hk
      obtain ⟨b1, b2, b3⟩ := k3 hk
      rw [if_pos h100]
      rw [h100] at et
      rw [et]
      dsimp only
      rw [b1, b2, text_back]
      dsimp only
      have ea := attrs_back (l := r.attrs) [] b3
      have eD := (attrs_eqv [attrsIt r.attrs] false).2 (by rw [ea]) trivial
      rw [eD, ea]
      obtain ⟨num, kind, code, dn, attrs⟩ := r
      have := h4 hk
      dsimp only at hk this ⊢
      subst hk; subst this; rfl
    · have h100 : ¬ (restIt r).1 = 100 := fun hh => hk (t3.1 hh)
      obtain ⟨b1, q, b2⟩ := k4 hk
      rw [if_neg h100, et]
      dsimp only
      rw [b1, b2, t2]
      have e := num_back (t := 10) hoc q
      have ec : numR (codeIt r.code :: q) false 10 0 127 = (r.code, q, false) := by
        unfold codeIt
        rw [numR_of (by rw [e]) (by rw [e]; exact h3), e]
      rw [ec]
      obtain ⟨num, kind, code, dn, attrs⟩ := r
      obtain ⟨e1, e2⟩ := h5 hk
      dsimp only at e1 e2 ⊢
      subst e1; subst e2; rfl
  unfold dcD
  rw [e]
  dsimp only
  rw [a1, a2, en]
  dsimp only
  rw [er, if_neg (by simp), if_pos ⟨rfl, rfl, encR_of h hl⟩]
theorem dc_eq (b : List UInt8) : dcP b = dcD b := by
  by_cases he : (Ber.nextB b).e ≠ 0
  · unfold dcP dcD; rw [if_pos he, if_pos he]
  by_cases hp : dcP b = (zP, 3)
  · by_cases hd : dcD b = (zP, 3)
    · rw [hp, hd]
    · have : ∃ r, dcD b = (r, 0) ∧ encR r = (b, 0) := by
        unfold dcD at hd ⊢
        rw [if_neg he] at hd ⊢
        dsimp only at hd ⊢
        split
        · rename_i hc; exact ⟨_, rfl, hc.2.2⟩
        · rename_i hc; rw [if_neg hc] at hd; exact absurd rfl hd
      obtain ⟨r, e1, e2⟩ := this
      obtain ⟨m1, m2, rfl⟩ := encR_ok e2
      rw [dcP_back m1 m2, dcD_back m1 m2]
  · have : ∃ r, dcP b = (r, 0) ∧ encR r = (b, 0) := by
      unfold dcP at hp ⊢
      rw [if_neg he] at hp ⊢
      dsimp only at hp ⊢
      split
      · rename_i hc; exact ⟨_, rfl, hc.2⟩
      · rename_i hc; rw [if_neg hc] at hp; exact absurd rfl hp
    obtain ⟨r, e1, e2⟩ := this
    obtain ⟨m1, m2, rfl⟩ := encR_ok e2
    rw [dcP_back m1 m2, dcD_back m1 m2]
end Go.Ms
set_option linter.unusedVariables false
namespace Go.Ms
open Go.Vk
theorem rsp_eq (a b : Rsp) : decide (a = b) = (decide (a.num = b.num) && decide (a.kind = b.kind) && decide (a.code = b.code) && decide (a.dn = b.dn) && decide (a.attrs = b.attrs)) := by
  obtain ⟨a1, a2, a3, a4, a5⟩ := a
  obtain ⟨b1, b2, b3, b4, b5⟩ := b
  rw [Bool.eq_iff_iff]
  simp [and_assoc]
theorem codeB_le {c : Int} (h : okK c) : (codeB c).length ≤ 30 := by
  have h1 := tag1_le 10 (Ber.intB c)
  have h2 := intB_le' h
  unfold codeB; omega
theorem text0_le : (textB []).length ≤ 20 := by have := textB_le' []; simp at this; omega
theorem restB_4 {r : Rsp} (h : r.kind = 4) : restB r = Ber.tagB 100 [textB r.dn, attrsB r.attrs] := if_pos h
theorem restB_24 {r : Rsp} (h : r.kind = 24) : restB r = Ber.tagB 120 [codeB r.code, textB [], textB [], Ber.tagB 138 [notice]] := by
  unfold restB; rw [if_neg (by omega), if_pos h]
theorem restB_x {r : Rsp} (h : r.kind ≠ 4) (h2 : r.kind ≠ 24) : restB r = Ber.tagB (tagR r.kind) [codeB r.code, textB [], textB []] := by
  unfold restB; rw [if_neg h, if_neg h2]
theorem tagR_add {k : Int} (h : rkB k = true) (h4 : k ≠ 4) (h24 : k ≠ 24) : b8 (96 + k) = tagR k := by
  rcases rkB_iff.1 h with h | h | h | h | h | h | h | h | h <;> subst h <;> first | contradiction | decide +kernel
end Go.Ms
set_option maxRecDepth 8000
set_option linter.unusedVariables false
namespace Go.Proofs.YtgaahjmgneallaaGreat
open Go.Vk
attribute [local irreducible] HT HX RegS RegA RegM OpP OpC AltT
attribute [local irreducible] Ber.tagB Ber.lenB Ber.intB Ms.textB Ms.wV Ms.wM Ms.wA Ms.textsB Ms.attrsB Ms.codeB Ms.tagR Ms.restB Ms.rspB Ms.rkB
theorem bytesEqual (a b : List UInt8) : CFn Tryz.prog 41 [TBytes a, TBytes b] (Is (.bool (decide (a = b)))) := by
  refine CallsC.of Tryz.call41 Tryz.func41 rfl Tryz.ntmps41 rfl fun w0 G0 S0 hs ho => ?_
  exact run trivial
theorem msRk (k : Int) : CFn Tryz.prog 69 [TSl 1 Ms.cZ [1, 4, 5, 7, 9, 11, 13, 15, 24], okI .i64 k] (Is (.bool (Ms.rkB k))) := by
  have := anyInt [1, 4, 5, 7, 9, 11, 13, 15, 24] k (by decide)
  unfold Ms.rkB
  exact this
set_option maxHeartbeats 4000000 in
theorem msMayRes (r : Ms.Rsp) : CFn Tryz.prog 26 [TAgg (Ms.cRsp r)] (Is (.bool (Ms.mayB r))) := by
  obtain ⟨num, kind, code, dn, attrs⟩ := r
  have c1 := msIsNum num 0
  have c2 := msRk kind
  unfold Ms.mayB Ms.numB
  dsimp only [Ms.cRsp]
  have hd : (dn = []) ↔ dn.length = 0 := List.length_eq_zero_iff.symm
  have ha : (attrs = []) ↔ attrs.length = 0 := List.length_eq_zero_iff.symm
  refine CallsC.of Tryz.call26 Tryz.func26 rfl Tryz.ntmps26 rfl fun w0 G0 S0 hs ho => ?_
  refine run ?_
  and_intros <;> intros <;> grind
set_option maxHeartbeats 4000000 in
theorem msSameRes (a b : Ms.Rsp) (ha : Ms.Oks a) : CFn Tryz.prog 11 [TAgg (Ms.cRsp a), TAgg (Ms.cRsp b)] (Is (.bool (decide (a = b)))) := by
  have h4 := ha.attrs
  have c4 := attrEq (f := 36) (Cs := []) a.attrs b.attrs (by have := Ms.sm_len Ms.wA_pos a.attrs; omega) (fun x hx y => msSameAttr x y (by have := Ms.wA_vals x; have := Ms.sm_mem (f := Ms.wA) hx; omega))
  rw [Ms.rsp_eq]
  clear h4 ha
  refine CallsC.of Tryz.call11 Tryz.func11 rfl Tryz.ntmps11 rfl fun w0 G0 S0 hs ho => ?_
  exact run trivial
set_option maxHeartbeats 4000000 in
theorem msEncodeRes (r : Ms.Rsp) (ha : Ms.Oks r) : CFn Tryz.prog 9 [TAgg (Ms.cRsp r)] (TTup [TBytes (Ms.encR r).1, okI .i64 (Ms.encR r).2]) := by
  have c1 := msMayRes r
  unfold Ms.encR
  cases hm : Ms.mayB r with
  | false =>
    rw [hm] at c1
    simp only [Bool.false_eq_true, reduceIte]
    clear ha
    refine CallsC.of Tryz.call9 Tryz.func9 rfl Tryz.ntmps9 rfl fun w0 G0 S0 hs ho => ?_
    exact run trivial
  | true =>
    rw [hm] at c1
    obtain ⟨m1, m2, m3, m4, m5⟩ := Ms.mayB_of hm
    rw [if_pos rfl]
    have hn := ha.num
    have hc := ha.code
    have hdn := ha.dn
    have hat := ha.attrs
    have c2 := int r.num hn
    have c3 := int r.code hc
    have l2 := Ms.intB_le' hn
    have l3 := Ms.intB_le' hc
    have l4 := Ms.tag1_le 2 (Ber.intB r.num)
    have l5 := Ms.codeB_le hc
    have l6 := Ms.text0_le
    have c4 : CFn Tryz.prog 23 [okI .u8 2, TSlX 1 (fun ts : List Ty => ts) [[TBytes (Ber.intB r.num)]]] (TBytes (Ber.tagB 2 [Ber.intB r.num])) := CFn.sub (tagO 2 [Ber.intB r.num] (by rw [Ber.tot_one]; omega) (by simp)).justFn (by exact byQ)
    have ec : Ms.codeB r.code = Ber.tagB 10 [Ber.intB r.code] := by unfold Ms.codeB; rfl
    have c5 : CFn Tryz.prog 23 [okI .u8 10, TSlX 1 (fun ts : List Ty => ts) [[TBytes (Ber.intB r.code)]]] (TBytes (Ms.codeB r.code)) := by
      rw [ec]
      exact CFn.sub (tagO 10 [Ber.intB r.code] (by rw [Ber.tot_one]; omega) (by simp)).justFn (by exact byQ)
    have er : Ms.rspB r = Ber.tagB 48 [Ber.tagB 2 [Ber.intB r.num], Ms.restB r] := by unfold Ms.rspB; rfl
    have hlast : (Ms.restB r).length ≤ 300000000 → CFn Tryz.prog 23 [okI .u8 48, TSlX 1 (fun ts : List Ty => ts) [[TBytes (Ber.tagB 2 [Ber.intB r.num])], [TBytes (Ms.restB r)]]] (TBytes (Ms.rspB r)) := fun h => by
      rw [er]
      exact CFn.sub (tagO 48 [Ber.tagB 2 [Ber.intB r.num], Ms.restB r] (by rw [Ms.tot_cons, Ms.tot_cons, Ms.tot_nil]; omega) (by simp)).justFn (by exact byQ)
    clear ha hn hc er ec hm m1 m3 m4 m5
    by_cases k4 : r.kind = 4
    · have e1 := Ms.restB_4 k4
      have d1 := msText' r.dn (by omega)
      have d2 := msAttrs r.attrs (by omega)
      have w1 := Ms.textB_le' r.dn
      have w2 : (Ms.attrsB r.attrs).length ≤ 100000000 := by
        have h1 := Ms.tagB_le 48 (r.attrs.map Ms.attrB)
        have h2 := Ms.tot_map Ms.attrB_le r.attrs
        have h3 : Ms.attrsB r.attrs = Ber.tagB 48 (r.attrs.map Ms.attrB) := by unfold Ms.attrsB; rfl
        rw [h3]; omega
      have w3 := Ms.tagB_le 100 [Ms.textB r.dn, Ms.attrsB r.attrs]
      rw [Ms.tot_cons, Ms.tot_cons, Ms.tot_nil] at w3
      have d3 : CFn Tryz.prog 23 [okI .u8 100, TSlX 1 (fun ts : List Ty => ts) [[TBytes (Ms.textB r.dn)], [TBytes (Ms.attrsB r.attrs)]]] (TBytes (Ms.restB r)) := by
        rw [e1]
        exact CFn.sub (tagO 100 [Ms.textB r.dn, Ms.attrsB r.attrs] (by rw [Ms.tot_cons, Ms.tot_cons, Ms.tot_nil]; omega) (by simp)).justFn (by exact byQ)
      have d4 := hlast (by rw [e1]; omega)
      clear hlast e1 w1 w2 w3 m2
      by_cases hl : (Ms.rspB r).length ≤ 65536
      · rw [if_pos hl]
        refine CallsC.of Tryz.call9 Tryz.func9 rfl Tryz.ntmps9 rfl fun w0 G0 S0 hs ho => ?_
        exact run trivial
      · rw [if_neg hl]
        refine CallsC.of Tryz.call9 Tryz.func9 rfl Tryz.ntmps9 rfl fun w0 G0 S0 hs ho => ?_
        exact run trivial
    · have d1 := msText' [] (by simp)
      by_cases k24 : r.kind = 24
      · have e1 := Ms.restB_24 k24
        have w1 := Ms.tagB_le 138 [Ms.notice]
        rw [Ms.tot_cons, Ms.tot_nil] at w1
        have w0 : Ms.notice.length = 22 := rfl
        have d2 : CFn Tryz.prog 23 [okI .u8 138, TSlX 1 (fun ts : List Ty => ts) [[TBytes Ms.notice]]] (TBytes (Ber.tagB 138 [Ms.notice])) := CFn.sub (tagO 138 [Ms.notice] (by rw [Ber.tot_one]; omega) (by simp)).justFn (by exact byQ)
        have w3 := Ms.tagB_le 120 [Ms.codeB r.code, Ms.textB [], Ms.textB [], Ber.tagB 138 [Ms.notice]]
        rw [Ms.tot_cons, Ms.tot_cons, Ms.tot_cons, Ms.tot_cons, Ms.tot_nil] at w3
        have d3 : CFn Tryz.prog 23 [okI .u8 120, TSlX 1 (fun ts : List Ty => ts) [[TBytes (Ms.codeB r.code)], [TBytes (Ms.textB [])], [TBytes (Ms.textB [])], [TBytes (Ber.tagB 138 [Ms.notice])]]] (TBytes (Ms.restB r)) := by
          rw [e1]
          exact CFn.sub (tagO 120 [Ms.codeB r.code, Ms.textB [], Ms.textB [], Ber.tagB 138 [Ms.notice]] (by rw [Ms.tot_cons, Ms.tot_cons, Ms.tot_cons, Ms.tot_cons, Ms.tot_nil]; omega) (by simp)).justFn (by exact byQ)
        have d4 := hlast (by rw [e1]; omega)
        clear hlast e1 w1 w3 m2 w0
        have st := Stop.mk' 10
        by_cases hl : (Ms.rspB r).length ≤ 65536
        · rw [if_pos hl]
          refine CallsC.of Tryz.call9 Tryz.func9 rfl Tryz.ntmps9 rfl fun w0 G0 S0 hs ho => ?_
          refine run ?_
          intros
          refine HTs.mk ?_
          clear st
          refine HT.region rfl ?_
          refine RegS.fq rfl ⟨_, fun _ => op_move rfl, ?_⟩
          refine RegS.fq rfl ⟨_, fun _ => op_move rfl, ?_⟩
          refine RegS.fq rfl ⟨_, fun _ => op_call d1 ⟨rfl, trivial⟩, ?_⟩
          refine RegS.fq rfl ⟨_, fun _ => op_call d1 ⟨rfl, trivial⟩, ?_⟩
          refine RegS.ofC rfl (oc_litBs rfl (by (repeat (first | exact LitOk.nil | apply LitOk.byte rfl | apply LitOk.b8 rfl (by decide) | fail)); done) (by exact rfl) rfl rfl rfl (fun v => rfl)) (fun v => ?_)
          refine RegS.ofC rfl (op_mark 0 rfl rfl rfl rfl (by decide)) (fun v => ?_)
          exact run trivial
        · rw [if_neg hl]
          refine CallsC.of Tryz.call9 Tryz.func9 rfl Tryz.ntmps9 rfl fun w0 G0 S0 hs ho => ?_
          refine run ?_
          intros
          refine HTs.mk ?_
          clear st
          refine HT.region rfl ?_
          refine RegS.fq rfl ⟨_, fun _ => op_move rfl, ?_⟩
          refine RegS.fq rfl ⟨_, fun _ => op_move rfl, ?_⟩
          refine RegS.fq rfl ⟨_, fun _ => op_call d1 ⟨rfl, trivial⟩, ?_⟩
          refine RegS.fq rfl ⟨_, fun _ => op_call d1 ⟨rfl, trivial⟩, ?_⟩
          refine RegS.ofC rfl (oc_litBs rfl (by (repeat (first | exact LitOk.nil | apply LitOk.byte rfl | apply LitOk.b8 rfl (by decide) | fail)); done) (by exact rfl) rfl rfl rfl (fun v => rfl)) (fun v => ?_)
          refine RegS.ofC rfl (op_mark 0 rfl rfl rfl rfl (by decide)) (fun v => ?_)
          exact run trivial
      · have e1 := Ms.restB_x k4 k24
        have w3 := Ms.tagB_le (Ms.tagR r.kind) [Ms.codeB r.code, Ms.textB [], Ms.textB []]
        rw [Ms.tot_cons, Ms.tot_cons, Ms.tot_cons, Ms.tot_nil] at w3
        have et : Ms.tagR r.kind = b8 96 ||| b8 r.kind := by unfold Ms.tagR; rfl
        have d3 : CFn Tryz.prog 23 [okI .u8 ((b8 96 ||| b8 r.kind).toNat : Int), TSlX 1 (fun ts : List Ty => ts) [[TBytes (Ms.codeB r.code)], [TBytes (Ms.textB [])], [TBytes (Ms.textB [])]]] (TBytes (Ms.restB r)) := by
          rw [e1, ← et]
          exact CFn.sub (tagO (Ms.tagR r.kind) [Ms.codeB r.code, Ms.textB [], Ms.textB []] (by rw [Ms.tot_cons, Ms.tot_cons, Ms.tot_cons, Ms.tot_nil]; omega) (by simp)).justFn (by exact byQ)
        have d4 := hlast (by rw [e1]; omega)
        clear hlast e1 w3 m2 et
        by_cases hl : (Ms.rspB r).length ≤ 65536
        · rw [if_pos hl]
          refine CallsC.of Tryz.call9 Tryz.func9 rfl Tryz.ntmps9 rfl fun w0 G0 S0 hs ho => ?_
          exact run trivial
        · rw [if_neg hl]
          refine CallsC.of Tryz.call9 Tryz.func9 rfl Tryz.ntmps9 rfl fun w0 G0 S0 hs ho => ?_
          exact run trivial
end Go.Proofs.YtgaahjmgneallaaGreat
set_option linter.unusedVariables false
namespace Go.Ms
open Go.Vk
theorem rspP_bad' {l : List It} {bad : Bool} (h : l = [] ∨ bad = true) : rspP l bad = (zP, l, true) := by
  rcases h with rfl | rfl
  · cases bad <;> rfl
  · cases l <;> rfl
theorem rspP_x (x : It) (r : List It) : rspP (x :: r) false = ((rspK ((x.1.toNat : Int) - 96) (allI x.2) (badI x.2)).1, r, (rspK ((x.1.toNat : Int) - 96) (allI x.2) (badI x.2)).2.2) := rfl
theorem oksZ : Oks zP := ⟨okK0, okK0, okK0, by decide, by decide⟩
theorem textI_len (l : List It) (bad : Bool) : (textI l bad).1.length ≤ wI l := by
  have := takeI_w l bad 4; unfold textI; omega
theorem rspK_oks {k : Int} (hk : okK k) {l : List It} (bad : Bool) (h : wI l ≤ 70000) : Oks (rspK k l bad).1 := by
  unfold rspK
  split
  · have h1 := textI_len l bad
    have h2 := textI_w l bad
    have h3 := attrs_wt true (textI l bad).2.1 (textI l bad).2.2
    exact ⟨okK0, by unfold okK; dsimp only; omega, okK0, by dsimp only; omega, by dsimp only; omega⟩
  · exact ⟨okK0, hk, numI_ok _ _ _, by simp, by simp [sm]⟩
theorem rspP_oks (l : List It) (bad : Bool) (h : wI l ≤ 70000) : Oks (rspP l bad).1 := by
  by_cases hc : l = [] ∨ bad = true
  · rw [rspP_bad' hc]; exact oksZ
  · cases l with
    | nil => simp at hc
    | cons x r =>
      cases bad with
      | true => simp at hc
      | false =>
        rw [rspP_x]
        rw [wI_cons] at h
        have h1 := allI_w x.2
        have h2 := x.1.toNat_lt
        exact rspK_oks (by unfold okK; omega) _ (by omega)
theorem oks_n {r : Rsp} (h : Oks r) {n : Int} (hn : okK n) : Oks (withN r n) := ⟨hn, h.kind, h.code, h.dn, h.attrs⟩
end Go.Ms
set_option maxRecDepth 8000
set_option linter.unusedVariables false
namespace Go.Proofs.YtgaahjmgneallaaGreat
open Go.Vk
attribute [local irreducible] HT HX RegS RegA RegM OpP OpC AltT
attribute [local irreducible] Ber.tagB Ber.lenB Ber.intB Ber.allE Ber.fromIntB Ber.nextB Ms.textI Ms.numI Ms.attrsM Ms.encR
set_option maxHeartbeats 4000000 in
theorem miRspBad (g g2 : Nat) (num : Int) (l : List Ms.It) (bad : Bool) (hl : Ms.wI l ≤ 100000000) (hc : l = [] ∨ bad = true) : CallsC Tryz.prog 40 [Is (pAt g 0), Is (pAt g2 0)] [IX g l bad, ownP g2 25 [okI .i64 num, okI .i64 0, okI .i64 0, Is (str []), Is (.slice none 0 0)]] (fun _ => TTup []) (fun _ => [IX g (Ms.rspP l bad).2.1 (Ms.rspP l bad).2.2, ownP g2 25 (Ms.cRsp (Ms.withN (Ms.rspP l bad).1 num))]) := by
  rw [Ms.rspP_bad' hc]
  unfold Ms.withN Ms.zP
  dsimp only [Ms.cRsp]
  have hle := Ms.wI_len l
  cases bad with
  | true =>
    clear hc
    refine CallsC.of Tryz.call40 Tryz.func40 rfl Tryz.ntmps40 rfl fun w0 G0 S0 hs ho => ?_
    exact run trivial
  | false =>
    have h0 : l.length = 0 := by
      rcases hc with h | h
      · rw [h]; rfl
      · cases h
    have h0' : (l.length : Int) = 0 := by omega
    clear hc
    refine CallsC.of Tryz.call40 Tryz.func40 rfl Tryz.ntmps40 rfl fun w0 G0 S0 hs ho => ?_
    exact run trivial
set_option maxHeartbeats 4000000 in
theorem miRspX (g g2 : Nat) (num : Int) (x : Ms.It) (r : List Ms.It) (hl : Ms.wI (x :: r) ≤ 100000000) : CallsC Tryz.prog 40 [Is (pAt g 0), Is (pAt g2 0)] [IX g (x :: r) false, ownP g2 25 [okI .i64 num, okI .i64 0, okI .i64 0, Is (str []), Is (.slice none 0 0)]] (fun _ => TTup []) (fun _ => [IX g (Ms.rspP (x :: r) false).2.1 (Ms.rspP (x :: r) false).2.2, ownP g2 25 (Ms.cRsp (Ms.withN (Ms.rspP (x :: r) false).1 num))]) := by
  rw [Ms.rspP_x]
  unfold Ms.withN Ms.rspK
  dsimp only
  have hle := Ms.wI_len (x :: r)
  have et : Ms.takeI (x :: r) false x.1 = (x.2, r, false) := by
    show (if false = false ∧ x.1 = x.1 then (x.2, r, false) else ([], x :: r, true)) = _
    rw [if_pos ⟨rfl, rfl⟩]
  have c1 := fun g => miInner g (x :: r) false x.1 hl
  rw [et] at c1
  dsimp only at c1
  rw [Bool.or_false] at c1
  have hw2 := Ms.inner_w (x :: r) false x.1
  rw [et] at hw2
  dsimp only at hw2
  clear et
  obtain ⟨l, hx⟩ : ∃ l : List Ms.It, l = x :: r := ⟨_, rfl⟩
  have f1 : ¬ (l.length : Int) = 0 := by rw [hx]; simp; omega
  have f0 : (l.getD 0 default).1 = x.1 := by rw [hx, List.getD_cons_zero]
  have hlt := x.1.toNat_lt
  rw [← f0, ← hx] at c1
  rw [← f0] at hlt ⊢
  rw [← hx] at hle hl hw2 ⊢
  generalize Ms.allI x.2 = x0 at c1 hw2 ⊢
  generalize Ms.badI x.2 = b0 at c1 ⊢
  clear hx f0
  have l0 := Ms.wI_len x0
  have hlt' : (l.getD (nat_lit 0) default).1.toNat < 256 := hlt
  by_cases hk : ((l.getD 0 default).1.toNat : Int) - 96 = 4
  · rw [if_pos hk]
    dsimp only
    have hk' : ((l.getD (nat_lit 0) default).1.toNat : Int) - 96 = 4 := hk
    have c3 : ∀ g, CallsC Tryz.prog 78 [Is (pAt g 0)] [IX g x0 b0] (fun _ => Is (str (Ms.textI x0 b0).1)) (fun _ => [IX g (Ms.textI x0 b0).2.1 (Ms.textI x0 b0).2.2]) := fun g => miText g x0 b0 (by omega)
    have w4 := Ms.textI_w x0 b0
    generalize Ms.textI x0 b0 = d at c3 w4 ⊢
    have c5 : ∀ g, CallsC Tryz.prog 79 [Is (pAt g 0)] [IX g d.2.1 d.2.2] (fun _ => TSl 2 En.cAttr (Ms.attrsM true d.2.1 d.2.2).1) (fun _ => [IX g (Ms.attrsM true d.2.1 d.2.2).2.1 (Ms.attrsM true d.2.1 d.2.2).2.2]) := fun g => miAttrs g d.2.1 d.2.2 (by omega)
    generalize Ms.attrsM true d.2.1 d.2.2 = a at c5 ⊢
    dsimp only [Ms.cRsp]
    refine CallsC.of Tryz.call40 Tryz.func40 rfl Tryz.ntmps40 rfl fun w0 G0 S0 hs ho => ?_
    refine run ?_
    and_intros <;> intros <;> first | rfl | grind
  · rw [if_neg hk]
    dsimp only
    have hk' : ¬ ((l.getD (nat_lit 0) default).1.toNat : Int) - 96 = 4 := hk
    have c2 : ∀ g, CallsC Tryz.prog 39 [Is (pAt g 0), okI .u8 10] [IX g x0 b0] (fun _ => okI .i64 (Ms.numI x0 b0 10).1) (fun _ => [IX g (Ms.numI x0 b0 10).2.1 (Ms.numI x0 b0 10).2.2]) := fun g => miNum g x0 b0 10 (by omega)
    generalize Ms.numI x0 b0 10 = n at c2 ⊢
    dsimp only [Ms.cRsp]
    refine CallsC.of Tryz.call40 Tryz.func40 rfl Tryz.ntmps40 rfl fun w0 G0 S0 hs ho => ?_
    refine run ?_
    and_intros <;> intros <;> first | rfl | grind
theorem miResponse (g g2 : Nat) (num : Int) (l : List Ms.It) (bad : Bool) (hl : Ms.wI l ≤ 100000000) : CallsC Tryz.prog 40 [Is (pAt g 0), Is (pAt g2 0)] [IX g l bad, ownP g2 25 [okI .i64 num, okI .i64 0, okI .i64 0, Is (str []), Is (.slice none 0 0)]] (fun _ => TTup []) (fun _ => [IX g (Ms.rspP l bad).2.1 (Ms.rspP l bad).2.2, ownP g2 25 (Ms.cRsp (Ms.withN (Ms.rspP l bad).1 num))]) := by
  by_cases hc : l = [] ∨ bad = true
  · exact miRspBad g g2 num l bad hl hc
  · cases l with
    | nil => simp at hc
    | cons x r =>
      cases bad with
      | true => simp at hc
      | false => exact miRspX g g2 num x r hl
set_option maxHeartbeats 4000000 in
theorem msDecodeRes (b : List UInt8) (hb : b.length ≤ 70000) : CFn Tryz.prog 13 [TBytes b] (TTup [TAgg (Ms.cRsp (Ms.dcP b).1), okI .i64 (Ms.dcP b).2]) := by
  have c1 := nextP b (by omega)
  have hn := Ber.nextB_len b
  unfold Ms.dcP
  generalize Ber.nextB b = n at c1 hn ⊢
  dsimp only
  by_cases he : n.e = 0
  case neg =>
    rw [if_pos he]
    dsimp only [Ms.cRsp, Ms.zP]
    refine CallsC.of Tryz.call13 Tryz.func13 rfl Tryz.ntmps13 rfl fun w0 G0 S0 hs ho => ?_
    exact run trivial
  rw [if_neg (by simpa using he)]
  have c2 : CallsC Tryz.prog 38 [TBytes n.body] [] (fun v => Is (pAt (blk v) 0)) (fun v => [IX (blk v) (Ms.allI n.body) (Ms.badI n.body)]) := miApart n.body (by omega)
  have hw := Ms.allI_w n.body
  generalize Ms.allI n.body = x0 at c2 hw ⊢
  generalize Ms.badI n.body = b0 at c2 ⊢
  have l0 := Ms.wI_len x0
  have c3 : ∀ g, CallsC Tryz.prog 39 [Is (pAt g 0), okI .u8 2] [IX g x0 b0] (fun _ => okI .i64 (Ms.numI x0 b0 2).1) (fun _ => [IX g (Ms.numI x0 b0 2).2.1 (Ms.numI x0 b0 2).2.2]) := fun g => miNum g x0 b0 2 (by omega)
  have w1 := Ms.numI_w x0 b0 2
  have k1 := Ms.numI_ok x0 b0 2
  generalize Ms.numI x0 b0 2 = q at c3 w1 k1 ⊢
  have c4 : ∀ g g2, CallsC Tryz.prog 40 [Is (pAt g 0), Is (pAt g2 0)] [IX g q.2.1 q.2.2, ownP g2 25 [okI .i64 q.1, okI .i64 0, okI .i64 0, Is (str []), Is (.slice none 0 0)]] (fun _ => TTup []) (fun _ => [IX g (Ms.rspP q.2.1 q.2.2).2.1 (Ms.rspP q.2.1 q.2.2).2.2, ownP g2 25 (Ms.cRsp (Ms.withN (Ms.rspP q.2.1 q.2.2).1 q.1))]) := fun g g2 => miResponse g g2 q.1 q.2.1 q.2.2 (by omega)
  have k2 := Ms.oks_n (Ms.rspP_oks q.2.1 q.2.2 (by omega)) k1
  generalize Ms.rspP q.2.1 q.2.2 = o at c4 k2 ⊢
  have c5 := msEncodeRes (Ms.withN o.1 q.1) k2
  generalize Ms.withN o.1 q.1 = R at c4 c5 ⊢
  clear k2 k1
  generalize Ms.encR R = z at c5 ⊢
  have c6 := bytesEqual z.1 b
  have mu := Mut.mk' [8]
  by_cases hB : o.2.2 = false ∧ z = (b, 0)
  · rw [if_pos hB]
    obtain ⟨hB1, hB2⟩ := hB
    have hz1 : z.1 = b := by rw [hB2]
    have hz2 : z.2 = 0 := by rw [hB2]
    clear hB2
    refine CallsC.of Tryz.call13 Tryz.func13 rfl Tryz.ntmps13 rfl fun w0 G0 S0 hs ho => ?_
    refine run ?_
    and_intros <;> intros <;> exfalso <;> grind
  · rw [if_neg hB]
    have hB' : ¬ (o.2.2 = false ∧ z.1 = b ∧ z.2 = 0) := fun h => hB ⟨h.1, by rw [← h.2.1, ← h.2.2]⟩
    clear hB
    dsimp only [Ms.cRsp, Ms.zP]
    refine CallsC.of Tryz.call13 Tryz.func13 rfl Tryz.ntmps13 rfl fun w0 G0 S0 hs ho => ?_
    refine run ?_
    and_intros <;> intros <;> exfalso <;> grind
end Go.Proofs.YtgaahjmgneallaaGreat
set_option linter.unusedVariables false
namespace Go.Ms
open Go.Vk
theorem drop_at {l : List It} {a : Nat} {x : It} {r : List It} (h : l.drop a = x :: r) : a < l.length ∧ l.getD a default = x ∧ l.drop (a + 1) = r := by
  have h1 : a < l.length := by
    rcases Nat.lt_or_ge a l.length with h1 | h1
    · exact h1
    · rw [List.drop_of_length_le h1] at h; cases h
  rw [List.drop_eq_getElem_cons h1] at h
  injection h with h2 h3
  refine ⟨h1, ?_, h3⟩
  rw [List.getD_eq_getElem?_getD, List.getElem?_eq_getElem h1]
  exact h2
theorem drop_nil {l : List It} {a : Nat} (h : l.drop a = []) : l.length ≤ a := List.drop_eq_nil_iff.1 h
theorem wI_drop (l : List It) (a : Nat) : wI (l.drop a) ≤ wI l := by
  have : wI l = wI (l.take a) + wI (l.drop a) := by rw [← wI_app, List.take_append_drop]
  omega
theorem peek_no {l : List It} {a : Nat} {bad : Bool} (h : bad = true ∨ l.length ≤ a) : peekI (l.drop a) bad = 0 := by
  rcases h with rfl | h
  · exact peek_true _
  · rw [List.drop_of_length_le h]; rfl
theorem peek_at {l : List It} {a : Nat} (h : a < l.length) : peekI (l.drop a) false = (l.getD a default).1 := by
  rw [List.drop_eq_getElem_cons h, List.getD_eq_getElem?_getD, List.getElem?_eq_getElem h]
  rfl
theorem isI_at {l : List It} {a : Nat} (h : a < l.length) (bad : Bool) (t : UInt8) : isI (l.drop a) bad t = (!bad && decide ((l.getD a default).1 = t)) := by
  rw [List.drop_eq_getElem_cons h, List.getD_eq_getElem?_getD, List.getElem?_eq_getElem h]
  rfl
end Go.Ms
set_option maxRecDepth 8000
set_option linter.unusedVariables false
namespace Go.Proofs.YtgaahjmgneallaaGreat
open Go.Vk
attribute [local irreducible] HT HX RegS RegA RegM OpP OpC AltT
attribute [local irreducible] Ber.tagB Ber.lenB Ber.intB Ber.allE Ber.fromIntB Ber.nextB
abbrev RX25 (g : Nat) (l : List Ms.It) (a : Nat) (bad : Bool) : Res := ownP g 97 [TSl 2 Ber.cIt l, okI .i64 (a : Int), Is (.bool bad)]
theorem rdRead (b : List UInt8) (hb : b.length ≤ 134217728) : CallsC Tryz.prog 43 [TBytes b] [] (fun v => Is (pAt (blk v) 0)) (fun v => [RX25 (blk v) (Ms.allI b) 0 (Ms.badI b)]) := by
  have c1 : CFn Tryz.prog 80 [TBytes b] (TTup [TSl 2 Ber.cIt (Ms.allI b), okI .i64 (Ber.allE b.length b []).2]) := refAll b hb
  have e : Ms.badI b = decide ((Ber.allE b.length b []).2 ≠ 0) := rfl
  rw [e]
  generalize (Ber.allE b.length b []).2 = z at c1 ⊢
  have mu := Mut.mk' [14]
  refine CallsC.of Tryz.call43 Tryz.func43 rfl Tryz.ntmps43 rfl fun w0 G0 S0 hs ho => ?_
  exact run trivial
theorem rdPeek (g : Nat) (l : List Ms.It) (a : Nat) (bad : Bool) (hl : Ms.wI l ≤ 100000000) (ha : a ≤ l.length) : CallsC Tryz.prog 45 [Is (pAt g 0)] [RX25 g l a bad] (fun _ => okI .u8 ((Ms.peekI (l.drop a) bad).toNat : Int)) (fun _ => [RX25 g l a bad]) := by
  have hle := Ms.wI_len l
  refine CallsC.of Tryz.call45 Tryz.func45 rfl Tryz.ntmps45 rfl fun w0 G0 S0 hs ho => ?_
  refine run ?_
  refine ⟨fun h => ?_, fun h => ?_⟩
  · rw [Ms.peek_no (h.imp id (fun h => by omega))]; rfl
  · obtain ⟨rfl, h⟩ := h
    rw [Ms.peek_at (by omega)]
theorem rdBody (l : List Ms.It) (a : Nat) (bad : Bool) (t : UInt8) (hl : Ms.wI l ≤ 100000000) (ha : a ≤ l.length) : ∃ a', a' ≤ l.length ∧ l.drop a' = (Ms.takeI (l.drop a) bad t).2.1 ∧ ∀ g, CallsC Tryz.prog 47 [Is (pAt g 0), okI .u8 (t.toNat : Int)] [RX25 g l a bad] (fun _ => TBytes (Ms.takeI (l.drop a) bad t).1) (fun _ => [RX25 g l a' (Ms.takeI (l.drop a) bad t).2.2]) := by
  have hle := Ms.wI_len l
  cases hi : Ms.isI (l.drop a) bad t with
  | true =>
    obtain ⟨rfl, x, r, hd, hx, e⟩ := Ms.takeI_is hi
    obtain ⟨d1, d2, d3⟩ := Ms.drop_at hd
    rw [e]
    refine ⟨a + 1, by omega, d3, fun g => ?_⟩
    have f1 : (l.getD a default).1 = t := by rw [d2]; exact hx
    have f2 : ((l.getD a default).1.toNat : Int) = (t.toNat : Int) := by rw [f1]
    clear e hi hd d3
    refine CallsC.of Tryz.call47 Tryz.func47 rfl Tryz.ntmps47 rfl fun w0 G0 S0 hs ho => ?_
    refine run ?_
    intro _
    rw [show ((a : Int) + 1 - 1).toNat = a by omega, d2]
  | false =>
    rw [Ms.takeI_no hi]
    refine ⟨a, ha, rfl, fun g => ?_⟩
    have hno : a < l.length → bad = false → ¬ ((l.getD a default).1.toNat : Int) = (t.toNat : Int) := fun h1 h2 h3 => by
      rw [Ms.isI_at h1, h2, decide_eq_true (Ms.u8_i.1 h3)] at hi
      cases hi
    clear hi
    refine CallsC.of Tryz.call47 Tryz.func47 rfl Tryz.ntmps47 rfl fun w0 G0 S0 hs ho => ?_
    refine run ?_
    and_intros <;> intro h <;> exact absurd (Decidable.not_not.1 h.2) (hno (by have := h.1.2; omega) h.1.1)
theorem rdNum (l : List Ms.It) (a : Nat) (bad : Bool) (t : UInt8) (lo hi : Int) (hl : Ms.wI l ≤ 100000000) (ha : a ≤ l.length) : ∃ a', a' ≤ l.length ∧ l.drop a' = (Ms.numR (l.drop a) bad t lo hi).2.1 ∧ ∀ g, CallsC Tryz.prog 44 [Is (pAt g 0), okI .u8 (t.toNat : Int), okI .i64 lo, okI .i64 hi] [RX25 g l a bad] (fun _ => okI .i64 (Ms.numR (l.drop a) bad t lo hi).1) (fun _ => [RX25 g l a' (Ms.numR (l.drop a) bad t lo hi).2.2]) := by
  obtain ⟨a1, h1, h2, c1⟩ := rdBody l a bad t hl ha
  refine ⟨a1, h1, h2, fun g => ?_⟩
  unfold Ms.numR Ms.numI
  dsimp only
  generalize Ms.takeI (l.drop a) bad t = y at c1 ⊢
  have c2 := refFromInt y.1
  generalize Ber.fromIntB y.1 = z at c2 ⊢
  clear h2
  refine CallsC.of Tryz.call44 Tryz.func44 rfl Tryz.ntmps44 rfl fun w0 G0 S0 hs ho => ?_
  refine run ?_
  intro h
  rw [decide_eq_false h.1.1, decide_eq_false h.1.2, decide_eq_false h.2]
  simp
theorem rdFlag (l : List Ms.It) (a : Nat) (bad : Bool) (hl : Ms.wI l ≤ 100000000) (ha : a ≤ l.length) : ∃ a', a' ≤ l.length ∧ l.drop a' = (Ms.truthI (l.drop a) bad).2.1 ∧ ∀ g, CallsC Tryz.prog 121 [Is (pAt g 0)] [RX25 g l a bad] (fun _ => Is (.bool (Ms.truthI (l.drop a) bad).1)) (fun _ => [RX25 g l a' (Ms.truthI (l.drop a) bad).2.2]) := by
  obtain ⟨a1, h1, h2, c1⟩ := rdBody l a bad 1 hl ha
  refine ⟨a1, h1, h2, fun g => ?_⟩
  unfold Ms.truthI
  generalize Ms.takeI (l.drop a) bad 1 = y at c1 ⊢
  have c2 : CFn Tryz.prog 137 [TBytes y.1] (TTup [Is (.bool (Ms.fromB y.1).1), okI .i64 (Ms.fromB y.1).2]) := refFromBool _
  generalize Ms.fromB y.1 = z at c2 ⊢
  clear h2
  have c3 : ∀ g, CallsC Tryz.prog 47 [Is (pAt g 0), okI .u8 1] [RX25 g l a bad] (fun _ => TBytes y.1) (fun _ => [RX25 g l a1 y.2.2]) := c1
  clear c1
  refine CallsC.of Tryz.call121 Tryz.func121 rfl Tryz.ntmps121 rfl fun w0 G0 S0 hs ho => ?_
  refine run ?_
  intro h
  rw [decide_eq_false h]
  simp
theorem rdInner (l : List Ms.It) (a : Nat) (bad : Bool) (t : UInt8) (hl : Ms.wI l ≤ 100000000) (ha : a ≤ l.length) : ∃ a', a' ≤ l.length ∧ l.drop a' = (Ms.takeI (l.drop a) bad t).2.1 ∧ ∀ g, CallsC Tryz.prog 46 [Is (pAt g 0), okI .u8 (t.toNat : Int)] [RX25 g l a bad] (fun v => Is (pAt (blk v) 0)) (fun v => [RX25 g l a' (Ms.pbM false (Ms.takeI (l.drop a) bad t)), RX25 (blk v) (Ms.allI (Ms.takeI (l.drop a) bad t).1) 0 (Ms.badI (Ms.takeI (l.drop a) bad t).1)]) := by
  obtain ⟨a1, h1, h2, c1⟩ := rdBody l a bad t hl ha
  refine ⟨a1, h1, h2, fun g => ?_⟩
  have hw := Ms.takeI_w (l.drop a) bad t
  have hw2 := Ms.wI_drop l a
  generalize Ms.takeI (l.drop a) bad t = y at c1 hw ⊢
  have c2 := rdRead y.1 (by omega)
  unfold Ms.pbM
  dsimp only
  generalize Ms.allI y.1 = x0 at c2 ⊢
  clear h2
  cases hb : Ms.badI y.1 with
  | true =>
    rw [hb] at c2
    rw [Bool.or_true]
    refine CallsC.of Tryz.call46 Tryz.func46 rfl Tryz.ntmps46 rfl fun w0 G0 S0 hs ho => ?_
    exact run trivial
  | false =>
    rw [hb] at c2
    rw [Bool.or_false]
    refine CallsC.of Tryz.call46 Tryz.func46 rfl Tryz.ntmps46 rfl fun w0 G0 S0 hs ho => ?_
    exact run trivial
theorem rdEnd (g g2 : Nat) (l l2 : List Ms.It) (a a2 : Nat) (bad bad2 : Bool) (hl : Ms.wI l2 ≤ 100000000) (ha : a2 ≤ l2.length) : CallsC Tryz.prog 83 [Is (pAt g 0), Is (pAt g2 0)] [RX25 g l a bad, RX25 g2 l2 a2 bad2] (fun _ => TTup []) (fun _ => [RX25 g l a (Ms.endI bad bad2 (l2.drop a2)), RX25 g2 l2 a2 bad2]) := by
  have hle := Ms.wI_len l2
  have he : l2.drop a2 = [] ↔ a2 = l2.length := by rw [List.drop_eq_nil_iff]; omega
  unfold Ms.endI
  by_cases h : bad2 = true ∨ l2.drop a2 ≠ []
  · have e : (bad || bad2 || decide (l2.drop a2 ≠ [])) = true := by
      rcases h with h | h
      · rw [h]; simp
      · rw [decide_eq_true h]; simp
    rw [e]
    have h' : bad2 = true ∨ ¬ (a2 : Int) = (l2.length : Int) := h.imp id (fun h h2 => h (he.2 (by omega)))
    clear h e he
    refine CallsC.of Tryz.call83 Tryz.func83 rfl Tryz.ntmps83 rfl fun w0 G0 S0 hs ho => ?_
    refine run ?_
    intros
    exfalso
    grind
  · have hb : bad2 = false := by cases bad2 with
      | true => exact absurd (.inl rfl) h
      | false => rfl
    have h2 : l2.drop a2 = [] := Decidable.not_not.1 (fun h3 => h (.inr h3))
    have h3 := he.1 h2
    have e : (bad || bad2 || decide (l2.drop a2 ≠ [])) = bad := by rw [hb, h2]; simp
    rw [e]
    subst hb
    subst h3
    clear h e he h2
    refine CallsC.of Tryz.call83 Tryz.func83 rfl Tryz.ntmps83 rfl fun w0 G0 S0 hs ho => ?_
    exact run trivial
end Go.Proofs.YtgaahjmgneallaaGreat
set_option linter.unusedVariables false
namespace Go.Ms
open Go.Vk
theorem drop_ne {l : List It} {i : Nat} : l.drop i ≠ [] ↔ i < l.length := by rw [ne_eq, List.drop_eq_nil_iff]; omega
end Go.Ms
set_option maxRecDepth 8000
set_option linter.unusedVariables false
namespace Go.Proofs.YtgaahjmgneallaaGreat
open Go.Vk
attribute [local irreducible] HT HX RegS RegA RegM OpP OpC AltT
attribute [local irreducible] Ber.tagB Ber.lenB Ber.intB Ber.allE Ber.fromIntB Ber.nextB
set_option maxHeartbeats 2000000 in
theorem rdTexts (l : List Ms.It) (a : Nat) (bad : Bool) (t : UInt8) (hl : Ms.wI l ≤ 100000000) (ha : a ≤ l.length) : ∃ a', a' ≤ l.length ∧ l.drop a' = (Ms.textsM false t (l.drop a) bad).2.1 ∧ ∀ g, CallsC Tryz.prog 116 [Is (pAt g 0), okI .u8 (t.toNat : Int)] [RX25 g l a bad] (fun _ => TSl 1 En.cS (Ms.textsM false t (l.drop a) bad).1) (fun _ => [RX25 g l a' (Ms.textsM false t (l.drop a) bad).2.2]) := by
  obtain ⟨a1, h1, h2, c1⟩ := rdInner l a bad t hl ha
  refine ⟨a1, h1, h2, fun g => ?_⟩
  have hw2 := Ms.inner_w (l.drop a) bad t
  have hw3 := Ms.wI_drop l a
  unfold Ms.textsM Ms.innM
  dsimp only [Ms.xbM]
  clear h2
  generalize Ms.takeI (l.drop a) bad t = y at c1 hw2 ⊢
  generalize hpb : Ms.pbM false y = pb at c1 ⊢
  generalize hx : Ms.allI y.1 = x0 at c1 hw2 ⊢
  generalize hb : Ms.badI y.1 = b0 at c1 ⊢
  have hlx := Ms.wI_len x0
  refine CallsC.of Tryz.call116 Tryz.func116 rfl Tryz.ntmps116 rfl fun w0 G0 S0 hs ho => ?_
  refine run ?_
  intro vx
  refine HT.loopX (σ := (List (List UInt8) × Nat × Bool) × Value) [0, 4, 5] (fun t' => [(6, TAnd (Is t'.2) (TSl 1 En.cS t'.1.1))]) (fun t' => [RX25 g l a1 pb, RX25 (blk vx) x0 t'.1.2.1 t'.1.2.2, ownSl t'.2 1 9]) (fun t' => t'.1.2.1 ≤ x0.length ∧ (t'.1.2.2 = false → t'.1.1.length ≤ t'.1.2.1) ∧ t'.1.1.length ≤ x0.length + 1 ∧ t'.1.1 ++ (Ms.repA Ms.textI (x0.drop t'.1.2.1) t'.1.2.2).1 = (Ms.repA Ms.textI x0 b0).1 ∧ (Ms.repA Ms.textI (x0.drop t'.1.2.1) t'.1.2.2).2 = (Ms.repA Ms.textI x0 b0).2) (fun t' => x0.length - t'.1.2.1 + (if t'.1.2.2 then 0 else 1)) (([], 0, b0), .slice none 0 0) ⟨Nat.zero_le _, fun _ => by simp, by simp, rfl, rfl⟩ (run trivial) (run trivial) ?_
  clear c1 hb
  rintro ⟨⟨acc, i, b⟩, w⟩ ⟨h1, h2, h5, h3, h4⟩
  dsimp only at h1 h2 h3 h4 h5 ⊢
  by_cases hgo : x0.drop i ≠ [] ∧ b = false
  · obtain ⟨hne, rfl⟩ := hgo
    rw [Ms.repA_go Ms.textI_eats hne] at h3 h4
    dsimp only at h3 h4
    have h2 := h2 rfl
    have hi := Ms.drop_ne.1 hne
    obtain ⟨i', k1, k2, c2⟩ := rdBody x0 i false 4 (by omega) h1
    have hea := Ms.textI_eats (x0.drop i)
    have hlen : (Ms.textI (x0.drop i) false).2.1.length ≤ (x0.drop i).length := Ms.takeI_len _ _ _
    have e : Ms.textI (x0.drop i) false = Ms.takeI (x0.drop i) false 4 := rfl
    rw [e] at h3 h4 hea hlen
    rw [← k2] at h3 h4 hea hlen
    clear e k2
    generalize Ms.takeI (x0.drop i) false 4 = z at c2 hea hlen h3 h4
    rw [List.length_drop, List.length_drop] at hea hlen
    have c3 : ∀ g, CallsC Tryz.prog 47 [Is (pAt g 0), okI .u8 4] [RX25 g x0 i false] (fun _ => TBytes z.1) (fun _ => [RX25 g x0 i' z.2.2]) := c2
    clear c2
    refine run ?_
    intro v' _
    refine HX.roundX ((acc ++ [z.1], i', z.2.2), v') ⟨⟨by dsimp only; omega, fun hz => by have := hea hz; simp only [List.length_append, List.length_singleton]; omega, by simp only [List.length_append, List.length_singleton]; omega, by dsimp only; rw [List.append_assoc]; exact h3, h4⟩, ?_⟩ rfl (run trivial) (run trivial)
    dsimp only
    split
    · simp; omega
    · rename_i hz
      have := hea (by simpa using hz)
      simp; omega
  · have hend := Ms.repA_end (step := Ms.textI) hgo
    rw [hend] at h3 h4
    rw [List.append_nil] at h3
    dsimp only at h4
    rw [← h3, ← h4]
    have c2 := fun g g2 => rdEnd g g2 l x0 a1 i pb b (by omega) h1
    refine run ?_
    intros
    rename_i hh
    exact absurd ⟨Ms.drop_ne.2 (by omega), hh.1⟩ hgo
theorem rdAttr (l : List Ms.It) (a : Nat) (bad : Bool) (hl : Ms.wI l ≤ 100000000) (ha : a ≤ l.length) : ∃ a', a' ≤ l.length ∧ l.drop a' = (Ms.attM false (l.drop a) bad).2.1 ∧ ∀ g, CallsC Tryz.prog 82 [Is (pAt g 0)] [RX25 g l a bad] (fun _ => TTup [Is (str (Ms.attM false (l.drop a) bad).1.1), TSl 1 En.cS (Ms.attM false (l.drop a) bad).1.2]) (fun _ => [RX25 g l a' (Ms.attM false (l.drop a) bad).2.2]) := by
  obtain ⟨a1, h1, h2, c1⟩ := rdInner l a bad 48 hl ha
  refine ⟨a1, h1, h2, fun g => ?_⟩
  have hw2 := Ms.inner_w (l.drop a) bad 48
  have hw3 := Ms.wI_drop l a
  unfold Ms.attM Ms.innM Ms.attK
  dsimp only [Ms.xbM]
  clear h2
  generalize Ms.takeI (l.drop a) bad 48 = y at c1 hw2 ⊢
  generalize hpb : Ms.pbM false y = pb at c1 ⊢
  generalize Ms.allI y.1 = x0 at c1 hw2 ⊢
  generalize Ms.badI y.1 = b0 at c1 ⊢
  obtain ⟨i1, k1, k2, c2⟩ := rdBody x0 0 b0 4 (by omega) (Nat.zero_le _)
  rw [List.drop_zero] at k2 c2
  have e : Ms.textI x0 b0 = Ms.takeI x0 b0 4 := rfl
  rw [e]
  generalize Ms.takeI x0 b0 4 = p at c2 k2 ⊢
  obtain ⟨i2, k3, k4, c3⟩ := rdTexts x0 i1 p.2.2 49 (by omega) k1
  rw [k2] at k4 c3
  have c4 := fun g g2 => rdEnd g g2 l x0 a1 i2 pb (Ms.textsM false 49 p.2.1 p.2.2).2.2 (by omega) k3
  rw [k4] at c4
  generalize Ms.textsM false 49 p.2.1 p.2.2 = v at c3 c4 ⊢
  have d1 : ∀ g, CallsC Tryz.prog 46 [Is (pAt g 0), okI .u8 48] [RX25 g l a bad] (fun v => Is (pAt (blk v) 0)) (fun v => [RX25 g l a1 pb, RX25 (blk v) x0 0 b0]) := c1
  have d2 : ∀ g, CallsC Tryz.prog 47 [Is (pAt g 0), okI .u8 4] [RX25 g x0 0 b0] (fun _ => TBytes p.1) (fun _ => [RX25 g x0 i1 p.2.2]) := c2
  have d3 : ∀ g, CallsC Tryz.prog 116 [Is (pAt g 0), okI .u8 49] [RX25 g x0 i1 p.2.2] (fun _ => TSl 1 En.cS v.1) (fun _ => [RX25 g x0 i2 v.2.2]) := c3
  clear c1 c2 c3 k2 k4 e
  refine CallsC.of Tryz.call82 Tryz.func82 rfl Tryz.ntmps82 rfl fun w0 G0 S0 hs ho => ?_
  exact run trivial
set_option maxHeartbeats 4000000 in
theorem rdAttrs (l : List Ms.It) (a : Nat) (bad : Bool) (hl : Ms.wI l ≤ 100000000) (ha : a ≤ l.length) : ∃ a', a' ≤ l.length ∧ l.drop a' = (Ms.attrsM false (l.drop a) bad).2.1 ∧ ∀ g, CallsC Tryz.prog 48 [Is (pAt g 0)] [RX25 g l a bad] (fun _ => TSl 2 En.cAttr (Ms.attrsM false (l.drop a) bad).1) (fun _ => [RX25 g l a' (Ms.attrsM false (l.drop a) bad).2.2]) := by
  obtain ⟨a1, h1, h2, c1⟩ := rdInner l a bad 48 hl ha
  refine ⟨a1, h1, h2, fun g => ?_⟩
  have hw2 := Ms.inner_w (l.drop a) bad 48
  have hw3 := Ms.wI_drop l a
  unfold Ms.attrsM
  conv => enter [6, v]; unfold Ms.innM
  conv => enter [5, v]; unfold Ms.innM
  dsimp only [Ms.xbM]
  clear h2
  generalize Ms.takeI (l.drop a) bad 48 = y at c1 hw2 ⊢
  generalize hpb : Ms.pbM false y = pb at c1 ⊢
  generalize hx : Ms.allI y.1 = x0 at c1 hw2 ⊢
  generalize hb : Ms.badI y.1 = b0 at c1 ⊢
  have hlx := Ms.wI_len x0
  have d1 : ∀ g, CallsC Tryz.prog 46 [Is (pAt g 0), okI .u8 48] [RX25 g l a bad] (fun v => Is (pAt (blk v) 0)) (fun v => [RX25 g l a1 pb, RX25 (blk v) x0 0 b0]) := c1
  clear c1
  refine CallsC.of Tryz.call48 Tryz.func48 rfl Tryz.ntmps48 rfl fun w0 G0 S0 hs ho => ?_
  refine run ?_
  intro vx
  refine HT.loopX (σ := (List En.Attr × Nat × Bool) × Value) [0, 2, 3] (fun t' => [(4, TAnd (Is t'.2) (TSl 2 En.cAttr t'.1.1))]) (fun t' => [RX25 g l a1 pb, RX25 (blk vx) x0 t'.1.2.1 t'.1.2.2, ownSl t'.2 2 64]) (fun t' => t'.1.2.1 ≤ x0.length ∧ (t'.1.2.2 = false → t'.1.1.length ≤ t'.1.2.1) ∧ t'.1.1.length ≤ x0.length + 1 ∧ t'.1.1 ++ (Ms.repA (Ms.attrM false) (x0.drop t'.1.2.1) t'.1.2.2).1 = (Ms.repA (Ms.attrM false) x0 b0).1 ∧ (Ms.repA (Ms.attrM false) (x0.drop t'.1.2.1) t'.1.2.2).2 = (Ms.repA (Ms.attrM false) x0 b0).2) (fun t' => x0.length - t'.1.2.1 + (if t'.1.2.2 then 0 else 1)) (([], 0, b0), .slice none 0 0) ⟨Nat.zero_le _, fun _ => by simp, by simp, rfl, rfl⟩ (run trivial) (run trivial) ?_
  clear d1 hb
  rintro ⟨⟨acc, i, b⟩, w⟩ ⟨h1, h2, h5, h3, h4⟩
  dsimp only at h1 h2 h3 h4 h5 ⊢
  by_cases hgo : x0.drop i ≠ [] ∧ b = false
  · obtain ⟨hne, rfl⟩ := hgo
    rw [Ms.repA_go (Ms.attrM_eats false) hne] at h3 h4
    dsimp only at h3 h4
    have h2 := h2 rfl
    have hi := Ms.drop_ne.1 hne
    have hea := Ms.attrM_eats false (x0.drop i)
    have hlen : (Ms.attrM false (x0.drop i) false).2.1.length ≤ (x0.drop i).length := Ms.takeI_len _ _ _
    obtain ⟨i', k1, k2, c2⟩ := rdAttr x0 i false (by omega) h1
    have e : Ms.attrM false (x0.drop i) false = (⟨(Ms.attM false (x0.drop i) false).1.1, (Ms.attM false (x0.drop i) false).1.2⟩, (Ms.attM false (x0.drop i) false).2) := rfl
    rw [e] at h3 h4 hea hlen
    dsimp only at h3 h4 hea hlen
    rw [← k2] at h3 h4 hea hlen
    clear e k2
    generalize Ms.attM false (x0.drop i) false = z at c2 hea hlen h3 h4
    rw [List.length_drop, List.length_drop] at hea hlen
    refine run ?_
    intro v0 v' _
    refine HX.roundX ((acc ++ [⟨z.1.1, z.1.2⟩], i', z.2.2), v') ⟨⟨by dsimp only; omega, fun hz => by have := hea hz; simp only [List.length_append, List.length_singleton]; omega, by simp only [List.length_append, List.length_singleton]; omega, by dsimp only; rw [List.append_assoc]; exact h3, h4⟩, ?_⟩ rfl (run trivial) (run trivial)
    dsimp only
    split
    · simp; omega
    · rename_i hz
      have := hea (by simpa using hz)
      simp; omega
  · have hend := Ms.repA_end (step := Ms.attrM false) hgo
    rw [hend] at h3 h4
    rw [List.append_nil] at h3
    dsimp only at h4
    rw [← h3, ← h4]
    have c2 := fun g g2 => rdEnd g g2 l x0 a1 i pb b (by omega) h1
    refine run ?_
    intros
    rename_i hh
    exact absurd ⟨Ms.drop_ne.2 (by omega), hh.1⟩ hgo
set_option maxHeartbeats 4000000 in
theorem rdMods (l : List Ms.It) (a : Nat) (bad : Bool) (hl : Ms.wI l ≤ 100000000) (ha : a ≤ l.length) : ∃ a', a' ≤ l.length ∧ l.drop a' = (Ms.modsM false (l.drop a) bad).2.1 ∧ ∀ g, CallsC Tryz.prog 89 [Is (pAt g 0)] [RX25 g l a bad] (fun _ => TSl 3 Ms.cMod (Ms.modsM false (l.drop a) bad).1) (fun _ => [RX25 g l a' (Ms.modsM false (l.drop a) bad).2.2]) := by
  obtain ⟨a1, h1, h2, c1⟩ := rdInner l a bad 48 hl ha
  refine ⟨a1, h1, h2, fun g => ?_⟩
  have hw2 := Ms.inner_w (l.drop a) bad 48
  have hw3 := Ms.wI_drop l a
  unfold Ms.modsM
  conv => enter [6, v]; unfold Ms.innM
  conv => enter [5, v]; unfold Ms.innM
  dsimp only [Ms.xbM]
  clear h2
  generalize Ms.takeI (l.drop a) bad 48 = y at c1 hw2 ⊢
  generalize hpb : Ms.pbM false y = pb at c1 ⊢
  generalize hx : Ms.allI y.1 = x0 at c1 hw2 ⊢
  generalize hb : Ms.badI y.1 = b0 at c1 ⊢
  have hlx := Ms.wI_len x0
  have d1 : ∀ g, CallsC Tryz.prog 46 [Is (pAt g 0), okI .u8 48] [RX25 g l a bad] (fun v => Is (pAt (blk v) 0)) (fun v => [RX25 g l a1 pb, RX25 (blk v) x0 0 b0]) := c1
  clear c1
  refine CallsC.of Tryz.call89 Tryz.func89 rfl Tryz.ntmps89 rfl fun w0 G0 S0 hs ho => ?_
  refine run ?_
  intro vx
  refine HT.loopX (σ := (List Ms.Mod × Nat × Bool) × Value) [0, 2, 3] (fun t' => [(4, TAnd (Is t'.2) (TSl 3 Ms.cMod t'.1.1))]) (fun t' => [RX25 g l a1 pb, RX25 (blk vx) x0 t'.1.2.1 t'.1.2.2, ownSl t'.2 3 103]) (fun t' => t'.1.2.1 ≤ x0.length ∧ (t'.1.2.2 = false → t'.1.1.length ≤ t'.1.2.1) ∧ t'.1.1.length ≤ x0.length + 1 ∧ t'.1.1 ++ (Ms.repA (Ms.modM false) (x0.drop t'.1.2.1) t'.1.2.2).1 = (Ms.repA (Ms.modM false) x0 b0).1 ∧ (Ms.repA (Ms.modM false) (x0.drop t'.1.2.1) t'.1.2.2).2 = (Ms.repA (Ms.modM false) x0 b0).2) (fun t' => x0.length - t'.1.2.1 + (if t'.1.2.2 then 0 else 1)) (([], 0, b0), .slice none 0 0) ⟨Nat.zero_le _, fun _ => by simp, by simp, rfl, rfl⟩ (run trivial) (run trivial) ?_
  clear d1 hb
  rintro ⟨⟨acc, i, b⟩, w⟩ ⟨h1, h2, h5, h3, h4⟩
  dsimp only at h1 h2 h3 h4 h5 ⊢
  by_cases hgo : x0.drop i ≠ [] ∧ b = false
  · obtain ⟨hne, rfl⟩ := hgo
    rw [Ms.repA_go (Ms.modM_eats false) hne] at h3 h4
    dsimp only at h3 h4
    have h2 := h2 rfl
    have hi := Ms.drop_ne.1 hne
    have hea := Ms.modM_eats false (x0.drop i)
    have hlen : (Ms.modM false (x0.drop i) false).2.1.length ≤ (x0.drop i).length := Ms.takeI_len _ _ _
    obtain ⟨i', k1, k2, c2⟩ := rdInner x0 i false 48 (by omega) h1
    have e : Ms.modM false (x0.drop i) false = (let y := Ms.takeI (x0.drop i) false 48; let k := Ms.numR (Ms.allI y.1) (Ms.badI y.1) 10 0 2; let a := Ms.attM false k.2.1 k.2.2; (⟨k.1, a.1.1, a.1.2⟩, y.2.1, Ms.endI (Ms.pbM false y) a.2.2 a.2.1)) := rfl
    rw [e] at h3 h4 hea hlen
    have hw4 := Ms.inner_w (x0.drop i) false 48
    have hw5 := Ms.wI_drop x0 i
    generalize Ms.takeI (x0.drop i) false 48 = y2 at c2 hea hlen h3 h4 hw4 k2
    dsimp only at hea hlen h3 h4
    rw [← k2] at h3 h4 hea hlen
    clear e k2
    generalize Ms.pbM false y2 = p2 at c2 hea h3 h4
    generalize Ms.allI y2.1 = x2 at c2 hea h3 h4 hw4
    generalize Ms.badI y2.1 = b2 at c2 hea h3 h4
    rw [List.length_drop, List.length_drop] at hlen
    rw [List.length_drop, List.length_drop] at hea
    obtain ⟨j1, k3, k4, c3⟩ := rdNum x2 0 b2 10 0 2 (by omega) (Nat.zero_le _)
    rw [List.drop_zero] at k4 c3
    generalize Ms.numR x2 b2 10 0 2 = k at c3 hea h3 h4 k4
    obtain ⟨j2, k5, k6, c4⟩ := rdAttr x2 j1 k.2.2 (by omega) k3
    rw [k4] at k6 c4
    generalize Ms.attM false k.2.1 k.2.2 = at' at c4 hea h3 h4 k6
    have c5 := fun g g2 => rdEnd g g2 x0 x2 i' j2 p2 at'.2.2 (by omega) k5
    rw [k6] at c5
    have d2 : ∀ g, CallsC Tryz.prog 46 [Is (pAt g 0), okI .u8 48] [RX25 g x0 i false] (fun v => Is (pAt (blk v) 0)) (fun v => [RX25 g x0 i' p2, RX25 (blk v) x2 0 b2]) := c2
    have d3 : ∀ g, CallsC Tryz.prog 44 [Is (pAt g 0), okI .u8 10, okI .i64 0, okI .i64 2] [RX25 g x2 0 b2] (fun _ => okI .i64 k.1) (fun _ => [RX25 g x2 j1 k.2.2]) := c3
    clear c2 c3 k4 k6
    refine run ?_
    intro v0 v1 v' _
    refine HX.roundX ((acc ++ [⟨k.1, at'.1.1, at'.1.2⟩], i', Ms.endI p2 at'.2.2 at'.2.1), v') ⟨⟨by dsimp only; omega, fun hz => by have := hea hz; simp only [List.length_append, List.length_singleton]; omega, by simp only [List.length_append, List.length_singleton]; omega, by dsimp only; rw [List.append_assoc]; exact h3, h4⟩, ?_⟩ rfl (run trivial) (run trivial)
    dsimp only
    split
    · simp; omega
    · rename_i hz
      have := hea (by simpa using hz)
      simp; omega
  · have hend := Ms.repA_end (step := Ms.modM false) hgo
    rw [hend] at h3 h4
    rw [List.append_nil] at h3
    dsimp only at h4
    rw [← h3, ← h4]
    have c2 := fun g g2 => rdEnd g g2 l x0 a1 i pb b (by omega) h1
    refine run ?_
    intros
    rename_i hh
    exact absurd ⟨Ms.drop_ne.2 (by omega), hh.1⟩ hgo
end Go.Proofs.YtgaahjmgneallaaGreat
