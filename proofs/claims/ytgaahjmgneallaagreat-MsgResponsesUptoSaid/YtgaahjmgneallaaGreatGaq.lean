/-
  A request's operation as bytes; the contracts of the program's operation, Encode, Is. Printed by mkm7.py.
  The document's answers: length, Tag, Next; what each computes, for every input.
  What the reference's FromBool, Int and FromInt compute is what ber's own compute; no conditions but that a number is one of 64 bits.
  The contracts of the document's tag, text, num, rows, attr, attrs, mods.
  The contracts of the document's mods and filter.
-/
import Derived.Test.YtgaahjmgneallaaGreatGap
import Derived.Test.YtgaahjmgneallaaGreatGae
import Derived.Test.YtgaahjmgneallaaGreatGal
import Derived.Test.YtgaahjmgneallaaGreatGak
set_option linter.unusedSimpArgs false
set_option linter.unusedVariables false
set_option linter.unusedVariables false
namespace Go.Ms
open Go.Vk
def boolB (b : Bool) : List UInt8 := [if b then 255 else 0]
def renB (r : Req) : List (List UInt8) := [textB r.dn, textB r.rdn, Ber.tagB 1 [boolB (!r.keep)]] ++ (if r.above = true then [Ber.tagB 128 [r.up]] else [])
/-- What a request asks, as bytes. -/
def opB (r : Req) : List UInt8 :=
  if r.kind = 0 then Ber.tagB 96 [Ber.tagB 2 [Ber.intB 3], textB r.dn, Ber.tagB 128 [r.pass]]
  else if r.kind = 3 then Ber.tagB 99 [textB r.dn, Ber.tagB 10 [Ber.intB r.scope], Ber.tagB 10 [Ber.intB 0], Ber.tagB 2 [Ber.intB r.limit], Ber.tagB 2 [Ber.intB 0], Ber.tagB 1 [boolB false], filB r.fil, textsB 48 r.want]
  else if r.kind = 6 then Ber.tagB 102 [textB r.dn, modsB r.mods]
  else if r.kind = 8 then Ber.tagB 104 [textB r.dn, attrsB r.attrs]
  else if r.kind = 10 then Ber.tagB 74 [r.dn]
  else if r.kind = 12 then Ber.tagB 108 (renB r)
  else if r.kind = 14 then Ber.tagB 110 [textB r.dn, Ber.tagB 48 [textB r.avaT, textB r.avaV]]
  else if r.kind = 16 then Ber.tagB 80 [Ber.intB r.which]
  else Ber.tagB 66 []
def reqB (r : Req) : List UInt8 := Ber.tagB 48 [Ber.tagB 2 [Ber.intB r.num], opB r]
/-- May a request be? -/
def isR (r : Req) : Bool := soundB r && decide ((reqB r).length ≤ 65536)
theorem textB_le' (s : List UInt8) : (textB s).length ≤ s.length + 10 := textB_le s
theorem intB_le' {n : Int} (h : okK n) : (Ber.intB n).length ≤ 8 := (Ber.intB_len n h).2
theorem tag1_le (t : UInt8) (a : List UInt8) : (Ber.tagB t [a]).length ≤ a.length + 10 := by
  have := tagB_le t [a]
  rwa [Ber.tot_one] at this
theorem attrsB_le (l : List En.Attr) : (attrsB l).length ≤ sm wA l + 10 := by
  have h1 := tagB_le 48 (l.map attrB)
  have h2 := tot_map attrB_le l
  unfold attrsB; omega
theorem modsB_le {l : List Mod} (h : ∀ m ∈ l, okK m.kind) : (modsB l).length ≤ sm wM l + 10 := by
  have h1 := tagB_le 48 (l.map modB)
  have h2 := tot_mem (f := wM) (g := modB) l (fun a ha => modB_le (h a ha))
  unfold modsB; omega
theorem boolB_len (b : Bool) : (boolB b).length = 1 := rfl
theorem opB_le {r : Req} (ha : Okr r) : (opB r).length ≤ 300000000 := by
  obtain ⟨num, kind, dn, pass, scope, limit, fil, want, mods, attrs, rdn, keep, above, up, avaT, avaV, which⟩ := r
  obtain ⟨o1, o2, o3, o4, o5, o6, o7, o8, o9, o10, o11, o12, o13, o14, o15, o16, o17⟩ := ha
  dsimp only at o1 o2 o3 o4 o5 o6 o7 o8 o9 o10 o11 o12 o13 o14 o15 o16 o17
  unfold opB renB
  dsimp only
  have l1 := Ms.textB_le' dn
  split
  · have h1 := tagB_le 96 [Ber.tagB 2 [Ber.intB 3], textB dn, Ber.tagB 128 [pass]]
    have l2 := tag1_le 2 (Ber.intB 3)
    have l3 := tag1_le 128 pass
    have l4 := intB_le' (n := 3) (by unfold okK; omega)
    rw [tot_cons, tot_cons, tot_cons, tot_nil] at h1
    omega
  split
  · have h1 := tagB_le 99 [textB dn, Ber.tagB 10 [Ber.intB scope], Ber.tagB 10 [Ber.intB 0], Ber.tagB 2 [Ber.intB limit], Ber.tagB 2 [Ber.intB 0], Ber.tagB 1 [boolB false], filB fil, textsB 48 want]
    have l2 := tag1_le 10 (Ber.intB scope)
    have l3 := tag1_le 10 (Ber.intB 0)
    have l4 := tag1_le 2 (Ber.intB limit)
    have l5 := tag1_le 2 (Ber.intB 0)
    have l6 := tag1_le 1 (boolB false)
    have l7 := intB_le' o3
    have l8 := intB_le' o4
    have l9 := intB_le' okK0
    have l10 := boolB_len false
    have l11 := filB_le fil
    have l12 := textsB_le 48 want
    have l13 : wVs want = sm wV want + 10 := rfl
    rw [tot_cons, tot_cons, tot_cons, tot_cons, tot_cons, tot_cons, tot_cons, tot_cons, tot_nil] at h1
    omega
  split
  · have h1 := tagB_le 102 [textB dn, modsB mods]
    have l2 := modsB_le o16
    rw [tot_cons, tot_cons, tot_nil] at h1
    omega
  split
  · have h1 := tagB_le 104 [textB dn, attrsB attrs]
    have l2 := attrsB_le attrs
    rw [tot_cons, tot_cons, tot_nil] at h1
    omega
  split
  · have h1 := tag1_le 74 dn
    omega
  split
  · have h1 := tagB_le 108 ([textB dn, textB rdn, Ber.tagB 1 [boolB (!keep)]] ++ (if above = true then [Ber.tagB 128 [up]] else []))
    have l2 := textB_le' rdn
    have l3 := tag1_le 1 (boolB (!keep))
    have l4 := boolB_len (!keep)
    have l5 := tag1_le 128 up
    have l6 : Ber.tot (if above = true then [Ber.tagB 128 [up]] else []) ≤ (Ber.tagB 128 [up]).length := by
      split
      · rw [Ber.tot_one]; omega
      · rw [tot_nil]; omega
    rw [Ber.tot_append, tot_cons, tot_cons, tot_cons, tot_nil] at h1
    omega
  split
  · have h1 := tagB_le 110 [textB dn, Ber.tagB 48 [textB avaT, textB avaV]]
    have h2 := tagB_le 48 [textB avaT, textB avaV]
    have l2 := textB_le' avaT
    have l3 := textB_le' avaV
    rw [tot_cons, tot_cons, tot_nil] at h1 h2
    omega
  split
  · have h1 := tag1_le 80 (Ber.intB which)
    have l2 := intB_le' o5
    omega
  · have h1 := tagB_le 66 []
    rw [tot_nil] at h1
    omega
theorem isKindB_iff {k : Int} : isKindB k = true ↔ k = 0 ∨ k = 2 ∨ k = 3 ∨ k = 6 ∨ k = 8 ∨ k = 10 ∨ k = 12 ∨ k = 14 ∨ k = 16 := by
  unfold isKindB isIntZ
  simp
theorem soundB_iff {r : Req} (h : soundB r = true) : isKindB r.kind = true ∧ (r.kind = 3 → Fi.isF r.fil = true) := by
  unfold soundB at h
  simp only [Bool.and_eq_true, Bool.or_eq_true, Bool.not_eq_true', decide_eq_true_eq, decide_eq_false_iff_not] at h
  refine ⟨h.1.1.1.1.1.1.1, fun hk => ?_⟩
  rcases h.1.1.1.2 with h | h
  · exact absurd hk h
  · exact h
end Go.Ms
set_option maxRecDepth 8000
set_option linter.unusedVariables false
namespace Go.Proofs.YtgaahjmgneallaaGreat
open Go.Vk
attribute [local irreducible] HT HX RegS RegA RegM OpP OpC AltT
attribute [local irreducible] Ber.tagB Ber.lenB Ber.intB Ms.textB Ms.wV Ms.wF Ms.filB Ms.piecesB Ms.tagF Fi.isF Fi.wt Ms.wM Ms.wA Ms.textsB Ms.modsB Ms.attrsB
set_option maxHeartbeats 8000000 in
theorem msOp0 (r : Ms.Req) (ha : Ms.Okr r) (hk : r.kind = 0) : CFn Tryz.prog 64 [TAgg (Ms.cReq r)] (TBytes (Ms.opB r)) := by
  obtain ⟨num, kind, dn, pass, scope, limit, fil, want, mods, attrs, rdn, keep, above, up, avaT, avaV, which⟩ := r
  dsimp only at hk
  subst hk
  obtain ⟨o1, o2, o3, o4, o5, o6, o7, o8, o9, o10, o11, o12, o13, o14, o15, o16, o17⟩ := ha
  dsimp only at o1 o2 o3 o4 o5 o6 o7 o8 o9 o10 o11 o12 o13 o14 o15 o16 o17
  have e : Ms.opB ⟨num, 0, dn, pass, scope, limit, fil, want, mods, attrs, rdn, keep, above, up, avaT, avaV, which⟩ = Ber.tagB 96 [Ber.tagB 2 [Ber.intB 3], Ms.textB dn, Ber.tagB 128 [pass]] := rfl
  rw [e]
  dsimp only [Ms.cReq]
  have cN := msText' dn (by omega)
  have lN := Ms.textB_le' dn
  have c1 := int 3 (by decide)
  have l1 := Ms.intB_le' (n := 3) (by unfold Ms.okK; omega)
  have l2 := Ms.tag1_le 2 (Ber.intB 3)
  have l3 := Ms.tag1_le 128 pass
  have c2 : CFn Tryz.prog 23 [okI .u8 2, TSlX 1 (fun ts : List Ty => ts) [[TBytes (Ber.intB 3)]]] (TBytes (Ber.tagB 2 [Ber.intB 3])) := CFn.sub (tagO 2 [Ber.intB 3] (by rw [Ms.tot_cons, Ms.tot_nil]; omega) (by simp)).justFn (by exact byQ)
  have c3 : CFn Tryz.prog 23 [okI .u8 128, TSlX 1 (fun ts : List Ty => ts) [[TBytes (pass)]]] (TBytes (Ber.tagB 128 [pass])) := CFn.sub (tagO 128 [pass] (by rw [Ms.tot_cons, Ms.tot_nil]; omega) (by simp)).justFn (by exact byQ)
  have c4 : CFn Tryz.prog 23 [okI .u8 ((b8 96 ||| b8 0).toNat : Int), TSlX 1 (fun ts : List Ty => ts) [[TBytes (Ber.tagB 2 [Ber.intB 3])], [TBytes (Ms.textB dn)], [TBytes (Ber.tagB 128 [pass])]]] (TBytes (Ber.tagB 96 [Ber.tagB 2 [Ber.intB 3], Ms.textB dn, Ber.tagB 128 [pass]])) := by
    rw [show (b8 96 ||| b8 0) = (96 : UInt8) by decide +kernel]
    exact CFn.sub (tagO 96 [Ber.tagB 2 [Ber.intB 3], Ms.textB dn, Ber.tagB 128 [pass]] (by rw [Ms.tot_cons, Ms.tot_cons, Ms.tot_cons, Ms.tot_nil]; omega) (by simp)).justFn (by exact byQ)
  clear o1 o2 o3 o4 o5 o12 o13 o14 o15 o16 o17 e
  refine CallsC.of Tryz.call64 Tryz.func64 rfl Tryz.ntmps64 rfl fun w0 G0 S0 hs ho => ?_
  exact run trivial
set_option maxHeartbeats 8000000 in
theorem msOp3 (r : Ms.Req) (ha : Ms.Okr r) (hk : r.kind = 3) (hp : Ms.Prf r.fil) : CFn Tryz.prog 64 [TAgg (Ms.cReq r)] (TBytes (Ms.opB r)) := by
  obtain ⟨num, kind, dn, pass, scope, limit, fil, want, mods, attrs, rdn, keep, above, up, avaT, avaV, which⟩ := r
  dsimp only at hk
  subst hk
  obtain ⟨o1, o2, o3, o4, o5, o6, o7, o8, o9, o10, o11, o12, o13, o14, o15, o16, o17⟩ := ha
  dsimp only at o1 o2 o3 o4 o5 o6 o7 o8 o9 o10 o11 o12 o13 o14 o15 o16 o17
  have e : Ms.opB ⟨num, 3, dn, pass, scope, limit, fil, want, mods, attrs, rdn, keep, above, up, avaT, avaV, which⟩ = Ber.tagB 99 [Ms.textB dn, Ber.tagB 10 [Ber.intB scope], Ber.tagB 10 [Ber.intB 0], Ber.tagB 2 [Ber.intB limit], Ber.tagB 2 [Ber.intB 0], Ber.tagB 1 [Ms.boolB false], Ms.filB fil, Ms.textsB 48 want] := rfl
  rw [e]
  dsimp only [Ms.cReq]
  have cN := msText' dn (by omega)
  have lN := Ms.textB_le' dn
  have c1 := int 0 (by decide)
  have c2 := int scope o3
  have c3 := int limit o4
  have l1 := Ms.intB_le' (n := 0) (by unfold Ms.okK; omega)
  have l2 := Ms.intB_le' o3
  have l3 := Ms.intB_le' o4
  have cb : CFn Tryz.prog 107 [Is (.bool false)] (TBytes (Ms.boolB false)) := bool false
  have lb := Ms.boolB_len false
  have cf := msFilters fil (by omega) hp
  rw [Fi.cF_open fil] at cf
  have lf := Ms.filB_le fil
  have cw := msTexts 48 want (by omega)
  have lw := Ms.textsB_le 48 want
  have lw' : Ms.wVs want = Ms.sm Ms.wV want + 10 := rfl
  have q0 := Ms.tag1_le 10 (Ber.intB scope)
  have q1 := Ms.tag1_le 10 (Ber.intB 0)
  have q2 := Ms.tag1_le 2 (Ber.intB limit)
  have q3 := Ms.tag1_le 2 (Ber.intB 0)
  have q4 := Ms.tag1_le 1 (Ms.boolB false)
  have d1 : CFn Tryz.prog 23 [okI .u8 10, TSlX 1 (fun ts : List Ty => ts) [[TBytes (Ber.intB scope)]]] (TBytes (Ber.tagB 10 [Ber.intB scope])) := CFn.sub (tagO 10 [Ber.intB scope] (by rw [Ms.tot_cons, Ms.tot_nil]; omega) (by simp)).justFn (by exact byQ)
  have d2 : CFn Tryz.prog 23 [okI .u8 10, TSlX 1 (fun ts : List Ty => ts) [[TBytes (Ber.intB 0)]]] (TBytes (Ber.tagB 10 [Ber.intB 0])) := CFn.sub (tagO 10 [Ber.intB 0] (by rw [Ms.tot_cons, Ms.tot_nil]; omega) (by simp)).justFn (by exact byQ)
  have d3 : CFn Tryz.prog 23 [okI .u8 2, TSlX 1 (fun ts : List Ty => ts) [[TBytes (Ber.intB limit)]]] (TBytes (Ber.tagB 2 [Ber.intB limit])) := CFn.sub (tagO 2 [Ber.intB limit] (by rw [Ms.tot_cons, Ms.tot_nil]; omega) (by simp)).justFn (by exact byQ)
  have d4 : CFn Tryz.prog 23 [okI .u8 2, TSlX 1 (fun ts : List Ty => ts) [[TBytes (Ber.intB 0)]]] (TBytes (Ber.tagB 2 [Ber.intB 0])) := CFn.sub (tagO 2 [Ber.intB 0] (by rw [Ms.tot_cons, Ms.tot_nil]; omega) (by simp)).justFn (by exact byQ)
  have d5 : CFn Tryz.prog 23 [okI .u8 1, TSlX 1 (fun ts : List Ty => ts) [[TBytes (Ms.boolB false)]]] (TBytes (Ber.tagB 1 [Ms.boolB false])) := CFn.sub (tagO 1 [Ms.boolB false] (by rw [Ms.tot_cons, Ms.tot_nil]; omega) (by simp)).justFn (by exact byQ)
  have d6 : CFn Tryz.prog 23 [okI .u8 ((b8 96 ||| b8 3).toNat : Int), TSlX 1 (fun ts : List Ty => ts) [[TBytes (Ms.textB dn)], [TBytes (Ber.tagB 10 [Ber.intB scope])], [TBytes (Ber.tagB 10 [Ber.intB 0])], [TBytes (Ber.tagB 2 [Ber.intB limit])], [TBytes (Ber.tagB 2 [Ber.intB 0])], [TBytes (Ber.tagB 1 [Ms.boolB false])], [TBytes (Ms.filB fil)], [TBytes (Ms.textsB 48 want)]]] (TBytes (Ber.tagB 99 [Ms.textB dn, Ber.tagB 10 [Ber.intB scope], Ber.tagB 10 [Ber.intB 0], Ber.tagB 2 [Ber.intB limit], Ber.tagB 2 [Ber.intB 0], Ber.tagB 1 [Ms.boolB false], Ms.filB fil, Ms.textsB 48 want])) := by
    rw [show (b8 96 ||| b8 3) = (99 : UInt8) by decide +kernel]
    exact CFn.sub (tagO 99 [Ms.textB dn, Ber.tagB 10 [Ber.intB scope], Ber.tagB 10 [Ber.intB 0], Ber.tagB 2 [Ber.intB limit], Ber.tagB 2 [Ber.intB 0], Ber.tagB 1 [Ms.boolB false], Ms.filB fil, Ms.textsB 48 want] (by rw [Ms.tot_cons, Ms.tot_cons, Ms.tot_cons, Ms.tot_cons, Ms.tot_cons, Ms.tot_cons, Ms.tot_cons, Ms.tot_cons, Ms.tot_nil]; omega) (by simp)).justFn (by exact byQ)
  clear o1 o2 o3 o4 o5 o12 o13 o14 o15 o16 o17 e
  refine CallsC.of Tryz.call64 Tryz.func64 rfl Tryz.ntmps64 rfl fun w0 G0 S0 hs ho => ?_
  exact run trivial
set_option maxHeartbeats 8000000 in
theorem msOp6 (r : Ms.Req) (ha : Ms.Okr r) (hk : r.kind = 6) : CFn Tryz.prog 64 [TAgg (Ms.cReq r)] (TBytes (Ms.opB r)) := by
  obtain ⟨num, kind, dn, pass, scope, limit, fil, want, mods, attrs, rdn, keep, above, up, avaT, avaV, which⟩ := r
  dsimp only at hk
  subst hk
  obtain ⟨o1, o2, o3, o4, o5, o6, o7, o8, o9, o10, o11, o12, o13, o14, o15, o16, o17⟩ := ha
  dsimp only at o1 o2 o3 o4 o5 o6 o7 o8 o9 o10 o11 o12 o13 o14 o15 o16 o17
  have e : Ms.opB ⟨num, 6, dn, pass, scope, limit, fil, want, mods, attrs, rdn, keep, above, up, avaT, avaV, which⟩ = Ber.tagB 102 [Ms.textB dn, Ms.modsB mods] := rfl
  rw [e]
  dsimp only [Ms.cReq]
  have cN := msText' dn (by omega)
  have lN := Ms.textB_le' dn
  have c1 := msMods mods (by omega) o16
  have l1 := Ms.modsB_le o16
  have c2 : CFn Tryz.prog 23 [okI .u8 ((b8 96 ||| b8 6).toNat : Int), TSlX 1 (fun ts : List Ty => ts) [[TBytes (Ms.textB dn)], [TBytes (Ms.modsB mods)]]] (TBytes (Ber.tagB 102 [Ms.textB dn, Ms.modsB mods])) := by
    rw [show (b8 96 ||| b8 6) = (102 : UInt8) by decide +kernel]
    exact CFn.sub (tagO 102 [Ms.textB dn, Ms.modsB mods] (by rw [Ms.tot_cons, Ms.tot_cons, Ms.tot_nil]; omega) (by simp)).justFn (by exact byQ)
  clear o1 o2 o3 o4 o5 o12 o13 o14 o15 o16 o17 e
  refine CallsC.of Tryz.call64 Tryz.func64 rfl Tryz.ntmps64 rfl fun w0 G0 S0 hs ho => ?_
  exact run trivial
set_option maxHeartbeats 8000000 in
theorem msOp8 (r : Ms.Req) (ha : Ms.Okr r) (hk : r.kind = 8) : CFn Tryz.prog 64 [TAgg (Ms.cReq r)] (TBytes (Ms.opB r)) := by
  obtain ⟨num, kind, dn, pass, scope, limit, fil, want, mods, attrs, rdn, keep, above, up, avaT, avaV, which⟩ := r
  dsimp only at hk
  subst hk
  obtain ⟨o1, o2, o3, o4, o5, o6, o7, o8, o9, o10, o11, o12, o13, o14, o15, o16, o17⟩ := ha
  dsimp only at o1 o2 o3 o4 o5 o6 o7 o8 o9 o10 o11 o12 o13 o14 o15 o16 o17
  have e : Ms.opB ⟨num, 8, dn, pass, scope, limit, fil, want, mods, attrs, rdn, keep, above, up, avaT, avaV, which⟩ = Ber.tagB 104 [Ms.textB dn, Ms.attrsB attrs] := rfl
  rw [e]
  dsimp only [Ms.cReq]
  have cN := msText' dn (by omega)
  have lN := Ms.textB_le' dn
  have c1 := msAttrs attrs (by omega)
  have l1 := Ms.attrsB_le attrs
  have c2 : CFn Tryz.prog 23 [okI .u8 ((b8 96 ||| b8 8).toNat : Int), TSlX 1 (fun ts : List Ty => ts) [[TBytes (Ms.textB dn)], [TBytes (Ms.attrsB attrs)]]] (TBytes (Ber.tagB 104 [Ms.textB dn, Ms.attrsB attrs])) := by
    rw [show (b8 96 ||| b8 8) = (104 : UInt8) by decide +kernel]
    exact CFn.sub (tagO 104 [Ms.textB dn, Ms.attrsB attrs] (by rw [Ms.tot_cons, Ms.tot_cons, Ms.tot_nil]; omega) (by simp)).justFn (by exact byQ)
  clear o1 o2 o3 o4 o5 o12 o13 o14 o15 o16 o17 e
  refine CallsC.of Tryz.call64 Tryz.func64 rfl Tryz.ntmps64 rfl fun w0 G0 S0 hs ho => ?_
  exact run trivial
set_option maxHeartbeats 8000000 in
theorem msOp10 (r : Ms.Req) (ha : Ms.Okr r) (hk : r.kind = 10) : CFn Tryz.prog 64 [TAgg (Ms.cReq r)] (TBytes (Ms.opB r)) := by
  obtain ⟨num, kind, dn, pass, scope, limit, fil, want, mods, attrs, rdn, keep, above, up, avaT, avaV, which⟩ := r
  dsimp only at hk
  subst hk
  obtain ⟨o1, o2, o3, o4, o5, o6, o7, o8, o9, o10, o11, o12, o13, o14, o15, o16, o17⟩ := ha
  dsimp only at o1 o2 o3 o4 o5 o6 o7 o8 o9 o10 o11 o12 o13 o14 o15 o16 o17
  have e : Ms.opB ⟨num, 10, dn, pass, scope, limit, fil, want, mods, attrs, rdn, keep, above, up, avaT, avaV, which⟩ = Ber.tagB 74 [dn] := rfl
  rw [e]
  dsimp only [Ms.cReq]
  have cN := msText' dn (by omega)
  have lN := Ms.textB_le' dn
  have c2 : CFn Tryz.prog 23 [okI .u8 74, TSlX 1 (fun ts : List Ty => ts) [[TBytes (dn)]]] (TBytes (Ber.tagB 74 [dn])) := CFn.sub (tagO 74 [dn] (by rw [Ms.tot_cons, Ms.tot_nil]; omega) (by simp)).justFn (by exact byQ)
  clear o1 o2 o3 o4 o5 o12 o13 o14 o15 o16 o17 e
  refine CallsC.of Tryz.call64 Tryz.func64 rfl Tryz.ntmps64 rfl fun w0 G0 S0 hs ho => ?_
  exact run trivial
set_option maxHeartbeats 8000000 in
theorem msOp12 (r : Ms.Req) (ha : Ms.Okr r) (hk : r.kind = 12) : CFn Tryz.prog 64 [TAgg (Ms.cReq r)] (TBytes (Ms.opB r)) := by
  obtain ⟨num, kind, dn, pass, scope, limit, fil, want, mods, attrs, rdn, keep, above, up, avaT, avaV, which⟩ := r
  dsimp only at hk
  subst hk
  obtain ⟨o1, o2, o3, o4, o5, o6, o7, o8, o9, o10, o11, o12, o13, o14, o15, o16, o17⟩ := ha
  dsimp only at o1 o2 o3 o4 o5 o6 o7 o8 o9 o10 o11 o12 o13 o14 o15 o16 o17
  have e : Ms.opB ⟨num, 12, dn, pass, scope, limit, fil, want, mods, attrs, rdn, keep, above, up, avaT, avaV, which⟩ = Ber.tagB 108 (Ms.renB ⟨num, 12, dn, pass, scope, limit, fil, want, mods, attrs, rdn, keep, above, up, avaT, avaV, which⟩) := rfl
  rw [e]
  dsimp only [Ms.cReq]
  have cN := msText' dn (by omega)
  have lN := Ms.textB_le' dn
  have c1 := msText' rdn (by omega)
  have l1 := Ms.textB_le' rdn
  have cb : CFn Tryz.prog 107 [Is (.bool (!keep))] (TBytes (Ms.boolB (!keep))) := bool (!keep)
  have lb := Ms.boolB_len (!keep)
  have q1 := Ms.tag1_le 1 (Ms.boolB (!keep))
  have q2 := Ms.tag1_le 128 up
  have d1 : CFn Tryz.prog 23 [okI .u8 1, TSlX 1 (fun ts : List Ty => ts) [[TBytes (Ms.boolB (!keep))]]] (TBytes (Ber.tagB 1 [Ms.boolB (!keep)])) := CFn.sub (tagO 1 [Ms.boolB (!keep)] (by rw [Ms.tot_cons, Ms.tot_nil]; omega) (by simp)).justFn (by exact byQ)
  cases above with
  | false =>
    have e2 : Ms.renB ⟨num, 12, dn, pass, scope, limit, fil, want, mods, attrs, rdn, keep, false, up, avaT, avaV, which⟩ = [Ms.textB dn, Ms.textB rdn, Ber.tagB 1 [Ms.boolB (!keep)]] := rfl
    rw [e2]
    have d2 : CFn Tryz.prog 23 [okI .u8 ((b8 96 ||| b8 12).toNat : Int), TSlX 1 (fun ts : List Ty => ts) [[TBytes (Ms.textB dn)], [TBytes (Ms.textB rdn)], [TBytes (Ber.tagB 1 [Ms.boolB (!keep)])]]] (TBytes (Ber.tagB 108 [Ms.textB dn, Ms.textB rdn, Ber.tagB 1 [Ms.boolB (!keep)]])) := by
      rw [show (b8 96 ||| b8 12) = (108 : UInt8) by decide +kernel]
      exact CFn.sub (tagO 108 [Ms.textB dn, Ms.textB rdn, Ber.tagB 1 [Ms.boolB (!keep)]] (by rw [Ms.tot_cons, Ms.tot_cons, Ms.tot_cons, Ms.tot_nil]; omega) (by simp)).justFn (by exact byQ)
    clear o1 o2 o3 o4 o5 o12 o13 o14 o15 o16 o17 e e2
    refine CallsC.of Tryz.call64 Tryz.func64 rfl Tryz.ntmps64 rfl fun w0 G0 S0 hs ho => ?_
    exact run trivial
  | true =>
    have e2 : Ms.renB ⟨num, 12, dn, pass, scope, limit, fil, want, mods, attrs, rdn, keep, true, up, avaT, avaV, which⟩ = [Ms.textB dn, Ms.textB rdn, Ber.tagB 1 [Ms.boolB (!keep)], Ber.tagB 128 [up]] := rfl
    rw [e2]
    have d3 : CFn Tryz.prog 23 [okI .u8 128, TSlX 1 (fun ts : List Ty => ts) [[TBytes (up)]]] (TBytes (Ber.tagB 128 [up])) := CFn.sub (tagO 128 [up] (by rw [Ms.tot_cons, Ms.tot_nil]; omega) (by simp)).justFn (by exact byQ)
    have hlt : 26 < Tryz.prog.types.size := Nat.le_of_ble_eq_true (by kernel_rfl)
    have hsz : (Tryz.prog.types[26]'hlt).size = 1 := by kernel_rfl
    have d2 : ∀ v : Value, CFn Tryz.prog 23 [okI .u8 ((b8 96 ||| b8 12).toNat : Int), TAnd (Is v) (TSl (Tryz.prog.types[26]'hlt).size (fun ts : List Ty => ts) (List.map (fun ts : List Ty => ts) [[TSl 1 cB (Ms.textB dn)], [TSl 1 cB (Ms.textB rdn)], [TSl 1 cB (Ber.tagB 1 [Ms.boolB (!keep)])]] ++ [[TSl 1 cB (Ber.tagB 128 [up])]]))] (TBytes (Ber.tagB 108 [Ms.textB dn, Ms.textB rdn, Ber.tagB 1 [Ms.boolB (!keep)], Ber.tagB 128 [up]])) := by
      intro v
      rw [hsz, show (b8 96 ||| b8 12) = (108 : UInt8) by decide +kernel]
      exact CFn.sub (tagO 108 [Ms.textB dn, Ms.textB rdn, Ber.tagB 1 [Ms.boolB (!keep)], Ber.tagB 128 [up]] (by rw [Ms.tot_cons, Ms.tot_cons, Ms.tot_cons, Ms.tot_cons, Ms.tot_nil]; omega) (by simp)).justFn ⟨Sub.refl _, Sub.ownR (Sub.slT rfl), trivial⟩
    clear o1 o2 o3 o4 o5 o12 o13 o14 o15 o16 o17 e e2 q1 q2 hsz
    have mu := Mut.mk' [97]
    have pl := Plan.mk' 14 [(0,3,[]),(1,3,[]),(2,3,[]),(3,3,[]),(4,3,[]),(5,3,[]),(6,3,[]),(7,3,[]),(8,3,[]),(9,3,[]),(10,0,[]),(11,3,[])]
    refine CallsC.of Tryz.call64 Tryz.func64 rfl Tryz.ntmps64 rfl fun w0 G0 S0 hs ho => ?_
    exact run trivial
set_option maxHeartbeats 8000000 in
theorem msOp14 (r : Ms.Req) (ha : Ms.Okr r) (hk : r.kind = 14) : CFn Tryz.prog 64 [TAgg (Ms.cReq r)] (TBytes (Ms.opB r)) := by
  obtain ⟨num, kind, dn, pass, scope, limit, fil, want, mods, attrs, rdn, keep, above, up, avaT, avaV, which⟩ := r
  dsimp only at hk
  subst hk
  obtain ⟨o1, o2, o3, o4, o5, o6, o7, o8, o9, o10, o11, o12, o13, o14, o15, o16, o17⟩ := ha
  dsimp only at o1 o2 o3 o4 o5 o6 o7 o8 o9 o10 o11 o12 o13 o14 o15 o16 o17
  have e : Ms.opB ⟨num, 14, dn, pass, scope, limit, fil, want, mods, attrs, rdn, keep, above, up, avaT, avaV, which⟩ = Ber.tagB 110 [Ms.textB dn, Ber.tagB 48 [Ms.textB avaT, Ms.textB avaV]] := rfl
  rw [e]
  dsimp only [Ms.cReq]
  have cN := msText' dn (by omega)
  have lN := Ms.textB_le' dn
  have c1 := msText' avaT (by omega)
  have c2 := msText' avaV (by omega)
  have l1 := Ms.textB_le' avaT
  have l2 := Ms.textB_le' avaV
  have l3 := Ms.tagB_le 48 [Ms.textB avaT, Ms.textB avaV]
  rw [Ms.tot_cons, Ms.tot_cons, Ms.tot_nil] at l3
  have d1 : CFn Tryz.prog 23 [okI .u8 48, TSlX 1 (fun ts : List Ty => ts) [[TBytes (Ms.textB avaT)], [TBytes (Ms.textB avaV)]]] (TBytes (Ber.tagB 48 [Ms.textB avaT, Ms.textB avaV])) := CFn.sub (tagO 48 [Ms.textB avaT, Ms.textB avaV] (by rw [Ms.tot_cons, Ms.tot_cons, Ms.tot_nil]; omega) (by simp)).justFn (by exact byQ)
  have d2 : CFn Tryz.prog 23 [okI .u8 ((b8 96 ||| b8 14).toNat : Int), TSlX 1 (fun ts : List Ty => ts) [[TBytes (Ms.textB dn)], [TBytes (Ber.tagB 48 [Ms.textB avaT, Ms.textB avaV])]]] (TBytes (Ber.tagB 110 [Ms.textB dn, Ber.tagB 48 [Ms.textB avaT, Ms.textB avaV]])) := by
    rw [show (b8 96 ||| b8 14) = (110 : UInt8) by decide +kernel]
    exact CFn.sub (tagO 110 [Ms.textB dn, Ber.tagB 48 [Ms.textB avaT, Ms.textB avaV]] (by rw [Ms.tot_cons, Ms.tot_cons, Ms.tot_nil]; omega) (by simp)).justFn (by exact byQ)
  clear o1 o2 o3 o4 o5 o12 o13 o14 o15 o16 o17 e
  refine CallsC.of Tryz.call64 Tryz.func64 rfl Tryz.ntmps64 rfl fun w0 G0 S0 hs ho => ?_
  exact run trivial
set_option maxHeartbeats 8000000 in
theorem msOp16 (r : Ms.Req) (ha : Ms.Okr r) (hk : r.kind = 16) : CFn Tryz.prog 64 [TAgg (Ms.cReq r)] (TBytes (Ms.opB r)) := by
  obtain ⟨num, kind, dn, pass, scope, limit, fil, want, mods, attrs, rdn, keep, above, up, avaT, avaV, which⟩ := r
  dsimp only at hk
  subst hk
  obtain ⟨o1, o2, o3, o4, o5, o6, o7, o8, o9, o10, o11, o12, o13, o14, o15, o16, o17⟩ := ha
  dsimp only at o1 o2 o3 o4 o5 o6 o7 o8 o9 o10 o11 o12 o13 o14 o15 o16 o17
  have e : Ms.opB ⟨num, 16, dn, pass, scope, limit, fil, want, mods, attrs, rdn, keep, above, up, avaT, avaV, which⟩ = Ber.tagB 80 [Ber.intB which] := rfl
  rw [e]
  dsimp only [Ms.cReq]
  have cN := msText' dn (by omega)
  have lN := Ms.textB_le' dn
  have c1 := int which o5
  have l1 := Ms.intB_le' o5
  have d1 : CFn Tryz.prog 23 [okI .u8 80, TSlX 1 (fun ts : List Ty => ts) [[TBytes (Ber.intB which)]]] (TBytes (Ber.tagB 80 [Ber.intB which])) := CFn.sub (tagO 80 [Ber.intB which] (by rw [Ms.tot_cons, Ms.tot_nil]; omega) (by simp)).justFn (by exact byQ)
  clear o1 o2 o3 o4 o5 o12 o13 o14 o15 o16 o17 e
  refine CallsC.of Tryz.call64 Tryz.func64 rfl Tryz.ntmps64 rfl fun w0 G0 S0 hs ho => ?_
  exact run trivial
set_option maxHeartbeats 8000000 in
theorem msOp2 (r : Ms.Req) (ha : Ms.Okr r) (hk : r.kind = 2) : CFn Tryz.prog 64 [TAgg (Ms.cReq r)] (TBytes (Ms.opB r)) := by
  obtain ⟨num, kind, dn, pass, scope, limit, fil, want, mods, attrs, rdn, keep, above, up, avaT, avaV, which⟩ := r
  dsimp only at hk
  subst hk
  obtain ⟨o1, o2, o3, o4, o5, o6, o7, o8, o9, o10, o11, o12, o13, o14, o15, o16, o17⟩ := ha
  dsimp only at o1 o2 o3 o4 o5 o6 o7 o8 o9 o10 o11 o12 o13 o14 o15 o16 o17
  have e : Ms.opB ⟨num, 2, dn, pass, scope, limit, fil, want, mods, attrs, rdn, keep, above, up, avaT, avaV, which⟩ = Ber.tagB 66 [] := rfl
  rw [e]
  dsimp only [Ms.cReq]
  have cN := msText' dn (by omega)
  have lN := Ms.textB_le' dn
  have c1 := (tagO 66 [] (by decide) (by decide)).justFn
  clear o1 o2 o3 o4 o5 o12 o13 o14 o15 o16 o17 e
  refine CallsC.of Tryz.call64 Tryz.func64 rfl Tryz.ntmps64 rfl fun w0 G0 S0 hs ho => ?_
  exact run trivial
theorem msOper (r : Ms.Req) (ha : Ms.Okr r) (hk : Ms.isKindB r.kind = true) (hp : r.kind = 3 → Ms.Prf r.fil) : CFn Tryz.prog 64 [TAgg (Ms.cReq r)] (TBytes (Ms.opB r)) := by
  rcases Ms.isKindB_iff.1 hk with h | h | h | h | h | h | h | h | h
  · exact msOp0 r ha h
  · exact msOp2 r ha h
  · exact msOp3 r ha h (hp h)
  · exact msOp6 r ha h
  · exact msOp8 r ha h
  · exact msOp10 r ha h
  · exact msOp12 r ha h
  · exact msOp14 r ha h
  · exact msOp16 r ha h
attribute [local irreducible] Ms.opB Ms.soundB
set_option maxHeartbeats 4000000 in
theorem msEncode (r : Ms.Req) (ha : Ms.Okr r) : CFn Tryz.prog 21 [TAgg (Ms.cReq r)] (TTup [TBytes (if Ms.isR r = true then Ms.reqB r else []), okI .i64 (if Ms.isR r = true then 0 else 1)]) := by
  have c1 := msSound r ha
  unfold Ms.isR
  cases hS : Ms.soundB r with
  | false =>
    rw [hS] at c1
    simp only [Bool.false_and, Bool.false_eq_true, reduceIte]
    clear ha
    refine CallsC.of Tryz.call21 Tryz.func21 rfl Tryz.ntmps21 rfl fun w0 G0 S0 hs ho => ?_
    exact run trivial
  | true =>
    rw [hS] at c1
    have hs2 := Ms.soundB_iff hS
    have c2 := msOper r ha hs2.1 (fun h => Ms.isF_pr (hs2.2 h))
    have c3 := int r.num ha.num
    have l1 := Ms.intB_le' ha.num
    have l2 := Ms.tag1_le 2 (Ber.intB r.num)
    have l3 := Ms.opB_le ha
    have c4 : CFn Tryz.prog 23 [okI .u8 2, TSlX 1 (fun ts : List Ty => ts) [[TBytes (Ber.intB r.num)]]] (TBytes (Ber.tagB 2 [Ber.intB r.num])) := CFn.sub (tagO 2 [Ber.intB r.num] (by rw [Ms.tot_cons, Ms.tot_nil]; omega) (by simp)).justFn (by exact byQ)
    have c5 : CFn Tryz.prog 23 [okI .u8 48, TSlX 1 (fun ts : List Ty => ts) [[TBytes (Ber.tagB 2 [Ber.intB r.num])], [TBytes (Ms.opB r)]]] (TBytes (Ms.reqB r)) := CFn.sub (tagO 48 [Ber.tagB 2 [Ber.intB r.num], Ms.opB r] (by rw [Ms.tot_cons, Ms.tot_cons, Ms.tot_nil]; omega) (by simp)).justFn (by exact byQ)
    clear ha hs2 l1 l2 l3
    simp only [Bool.true_and]
    by_cases hl : (Ms.reqB r).length ≤ 65536
    · rw [decide_eq_true hl]
      simp only [reduceIte]
      refine CallsC.of Tryz.call21 Tryz.func21 rfl Tryz.ntmps21 rfl fun w0 G0 S0 hs ho => ?_
      exact run trivial
    · rw [decide_eq_false hl]
      simp only [Bool.false_eq_true, reduceIte]
      refine CallsC.of Tryz.call21 Tryz.func21 rfl Tryz.ntmps21 rfl fun w0 G0 S0 hs ho => ?_
      exact run trivial
theorem msIs (r : Ms.Req) (ha : Ms.Okr r) : CFn Tryz.prog 52 [TAgg (Ms.cReq r)] (Is (.bool (Ms.isR r))) := by
  have c1 := msEncode r ha
  clear ha
  cases h : Ms.isR r with
  | false =>
    rw [h] at c1
    simp only [Bool.false_eq_true, reduceIte] at c1
    refine CallsC.of Tryz.call52 Tryz.func52 rfl Tryz.ntmps52 rfl fun w0 G0 S0 hs ho => ?_
    exact run trivial
  | true =>
    rw [h] at c1
    simp only [reduceIte] at c1
    refine CallsC.of Tryz.call52 Tryz.func52 rfl Tryz.ntmps52 rfl fun w0 G0 S0 hs ho => ?_
    exact run trivial
end Go.Proofs.YtgaahjmgneallaaGreat
set_option maxRecDepth 8000
set_option linter.unusedVariables false
namespace Go.Proofs.YtgaahjmgneallaaGreat
open Go.Vk
attribute [local irreducible] HT HX RegS RegA RegM OpP OpC AltT
theorem refNext (b : List UInt8) (hl : b.length ≤ 137438953472) : CFn Tryz.prog 42 [TBytes b] (TTup [okI .u8 ((Ber.nextB b).tag.toNat : Int), TBytes (Ber.nextB b).body, TBytes (Ber.nextB b).rest, okI .i64 (Ber.nextB b).e]) := by
  have hlt := (b.getD 1 0).toNat_lt
  refine CallsC.of Tryz.call42 Tryz.func42 rfl Tryz.ntmps42 rfl fun w0 G0 S0 hs ho => ?_
  refine run ?_
  and_intros
  all_goals intros
  all_goals (first
    | (rw [Ber.nextB_err (Ber.headB_0 (by assumption)) (by decide)]; done)
    | (rw [Ber.nextB_err (Ber.headB_0 (by assumption)) (by decide)]; rfl)
    | (rw [Ber.nextB_err (Ber.headB_31 (by assumption) (by assumption)) (by decide)]; done)
    | (rw [Ber.nextB_err (Ber.headB_31 (by assumption) (by assumption)) (by decide)]; rfl)
    | (rw [Ber.nextB_err (Ber.headB_2 (by assumption) (by assumption) (by assumption)) (by decide)]; done)
    | (rw [Ber.nextB_err (Ber.headB_2 (by assumption) (by assumption) (by assumption)) (by decide)]; rfl)
    | (rw [Ber.nextB_err (Ber.headB_3 (by assumption) (by assumption) (by assumption) (by assumption)) (by decide)]; done)
    | (rw [Ber.nextB_err (Ber.headB_3 (by assumption) (by assumption) (by assumption) (by assumption)) (by decide)]; rfl)
    | (rw [Ber.nextB_err (Ber.headB_4 (by assumption) (by assumption) (by assumption) (by assumption) (by assumption)) (by decide)]; done)
    | (rw [Ber.nextB_err (Ber.headB_4 (by assumption) (by assumption) (by assumption) (by assumption) (by assumption)) (by decide)]; rfl)
    | (rw [Ber.nextB_2 (Ber.headB_b (by assumption) (by assumption) (by assumption)) (by assumption) (by assumption)]; done)
    | (rw [Ber.nextB_2 (Ber.headB_b (by assumption) (by assumption) (by assumption)) (by assumption) (by assumption)]; rfl)
    | (rw [Ber.nextB_ok (Ber.headB_b (by assumption) (by assumption) (by assumption)) (by assumption) (by assumption)]; done)
    | (rw [Ber.nextB_ok (Ber.headB_b (by assumption) (by assumption) (by assumption)) (by assumption) (by assumption)]; rfl)
    | skip)
  have hd5 := Ber.headB_5 (b := b) (by assumption) (by assumption) (by assumption) (by assumption) (by assumption)
  generalize hk : ((b.getD 1 0).toNat : Int) - 128 = k at *
  refine HT.loopX (σ := Nat) [0, 2, 3, 4, 5, 7, 8] (fun i => [(6, okI .i64 (Ber.be 0 ((b.drop 2).take i))), (9, okI .i64 (i : Int))]) (fun i => []) (fun i => i ≤ k.toNat) (fun i => k.toNat - i) 0 (Nat.zero_le _) (run trivial) (run ?_) ?_
  · rfl
  intro i hi
  have hbs := Ber.be_small ((b.drop 2).take i) (by rw [List.length_take]; omega)
  have hd6 : ¬ (i : Int) < k → Ber.headB b = (2 + k, Ber.be 0 ((b.drop 2).take i), 0) := fun h => by rw [show i = k.toNat by omega]; exact hd5
  clear hd5
  refine run ?_
  and_intros
  all_goals intros
  all_goals (first
    | (rw [Ber.nextB_5 (hd6 (by assumption)) (by assumption)]; done)
    | (rw [Ber.nextB_5 (hd6 (by assumption)) (by assumption)]; rfl)
    | (rw [Ber.nextB_2 (hd6 (by assumption)) (by assumption) (by assumption)]; done)
    | (rw [Ber.nextB_2 (hd6 (by assumption)) (by assumption) (by assumption)]; rfl)
    | (rw [Ber.nextB_ok (hd6 (by assumption)) (by assumption) (by assumption)]; done)
    | (rw [Ber.nextB_ok (hd6 (by assumption)) (by assumption) (by assumption)]; rfl)
    | skip)
  refine HX.roundX (i + 1) ⟨by omega, by omega⟩ rfl (run trivial) (run ?_)
  rw [Ber.be_snoc _ _ _ (by rw [List.length_drop]; omega)]
  simp [List.getD_eq_getElem?_getD]
theorem refLength (n : Int) (h : 0 ≤ n ∧ n ≤ 9223372036854775807) : CFn Tryz.prog 113 [okI .i64 n] (TBytes (Ber.lenB n)) := by
  refine CallsC.of Tryz.call113 Tryz.func113 rfl Tryz.ntmps113 rfl fun w0 G0 S0 hs ho => ?_
  refine run ?_
  and_intros
  all_goals intros
  · rw [Ber.lenB, if_pos (by assumption)]
  · refine HT.loopX (σ := Nat × Int × List UInt8) [2] (fun s => [(0, okI .i64 s.2.1), (3, TBytes s.2.2)]) (fun _ => []) (fun s => Ber.lenAcc s.1 s.2.1 s.2.2 = Ber.lenAcc 8 n [] ∧ 0 ≤ s.2.1 ∧ s.2.1 < 256 ^ s.1 ∧ s.2.2.length + s.1 = 8) (fun s => s.1) (8, n, []) ⟨rfl, h.1, by simp; omega, rfl⟩ (run trivial) (run trivial) ?_
    rintro ⟨k, m, acc⟩ ⟨h1, h2, h3, h4⟩
    dsimp only at h1 h2 h3 h4 ⊢
    refine run ?_
    and_intros
    all_goals intros
    · obtain ⟨k, rfl⟩ : ∃ j, k = j + 1 := by
        cases k with
        | zero => simp at h3; omega
        | succ k => exact ⟨k, rfl⟩
      refine HX.roundX (k, m / 256, b8 m :: acc) ⟨⟨?_, by dsimp only; omega, ?_, by simp; omega⟩, by dsimp only; omega⟩ rfl (run trivial) (run ?_)
      · rw [← h1, Ber.lenAcc, if_pos (by assumption)]
      · dsimp only; rw [Int.pow_succ] at h3; omega
      · rfl
    · have hacc : acc = Ber.lenAcc 8 n [] := by
        rw [← h1]
        cases k with
        | zero => rfl
        | succ k => rw [Ber.lenAcc, if_neg (by omega)]
      rw [Ber.lenB, if_neg (by omega), ← hacc]
      rfl
attribute [local irreducible] Ber.lenB in
theorem refTag (tag : UInt8) (body : List UInt8) (hl : body.length ≤ 70368744177664) : CFn Tryz.prog 71 [okI .u8 (tag.toNat : Int), TBytes body] (TBytes (Ber.tagB tag [body])) := by
  have c1 := @refLength
  have mu := Mut.mk' [6]
  have h := Ber.lenB_len (body.length : Int)
  refine CallsC.of Tryz.call71 Tryz.func71 rfl Tryz.ntmps71 rfl fun w0 G0 S0 hs ho => ?_
  refine run ?_
  intros
  rw [Ber.tagB_one]
  simp
end Go.Proofs.YtgaahjmgneallaaGreat
namespace Go.Ber
open Go.Vk
theorem wrap_be (b : List UInt8) (s : Int) (h1 : 1 ≤ b.length) (h8 : b.length ≤ 8) (hs : (127 < (b.getD 0 0).toNat ∧ s = -1) ∨ ((b.getD 0 0).toNat ≤ 127 ∧ s = 0)) : IntKind.i64.wrap (be s b % 18446744073709551616) = be (s8 (b.getD 0 0)) (b.drop (Int.toNat 1)) := by
  cases b with
  | nil => simp at h1
  | cons c t =>
    have e : s * 256 + (c.toNat : Int) = s8 c := by
      rw [s8_val]
      simp only [List.getD_cons_zero] at hs
      split <;> omega
    have e2 : be s (c :: t) = be (s8 c) t := by rw [be_cons, e]
    rw [e2]
    show _ = be (s8 c) t
    have h2 := be_rb t _ (s8_bd c)
    have h3 := rb_mono (show t.length ≤ 7 from by simp at h8; omega)
    rw [rb7] at h3
    rw [IntKind.wrap_i64]
    omega
end Go.Ber
set_option maxRecDepth 8000
set_option linter.unusedVariables false
namespace Go.Proofs.YtgaahjmgneallaaGreat
open Go.Vk
attribute [local irreducible] HT HX RegS RegA RegM OpP OpC AltT
theorem refFromBool (l : List UInt8) : CFn Tryz.prog 137 [TBytes l] (TTup [Is (.bool (decide (l.length = 1) && decide ((l.getD 0 0).toNat ≠ 0))), okI .i64 (if l.length = 1 then 0 else 3)]) := by
  refine CallsC.of Tryz.call137 Tryz.func137 rfl Tryz.ntmps137 rfl fun w0 G0 S0 hs ho => ?_
  exact run trivial
theorem refInt (n : Int) (h : -9223372036854775808 ≤ n ∧ n ≤ 9223372036854775807) : CFn Tryz.prog 73 [okI .i64 n] (TBytes (Ber.intB n)) := by
  refine CallsC.of Tryz.call73 Tryz.func73 rfl Tryz.ntmps73 rfl fun w0 G0 S0 hs ho => ?_
  refine run ?_
  refine HT.loopX (σ := Nat × Int × List UInt8) [] (fun s => [(0, okI .i64 s.2.1), (3, TBytes s.2.2)]) (fun _ => []) (fun s => Ber.intAcc s.1 s.2.1 (b8 s.2.1 :: s.2.2) = Ber.intB n ∧ -(Ber.rb s.1) ≤ s.2.1 ∧ s.2.1 < Ber.rb s.1 ∧ s.2.2.length + s.1 = 7) (fun s => s.1) (7, n, []) ⟨rfl, by rw [Ber.rb7]; exact h.1, by rw [Ber.rb7]; dsimp only; omega, rfl⟩ (run trivial) (run trivial) ?_
  rintro ⟨k, m, acc⟩ ⟨h1, h2, h3, h4⟩
  dsimp only at h1 h2 h3 h4 ⊢
  have hk : acc.length ≤ 7 := by omega
  refine run ?_
  refine ⟨fun hb => ?_, fun hb => ?_⟩
  · have hm : -128 ≤ m ∧ m ≤ 127 := by
      simp only [List.cons_append, List.getD_cons_zero, b8_toNat] at hb
      omega
    rw [← h1]
    cases k with
    | zero => rfl
    | succ k => rw [Ber.intAcc, if_neg (by omega)]; rfl
  · have hm : 127 < m ∨ m < -128 := by
      simp only [List.cons_append, List.getD_cons_zero, b8_toNat] at hb
      omega
    obtain ⟨k, rfl⟩ : ∃ j, k = j + 1 := by
      cases k with
      | zero => simp only [Ber.rb] at h2 h3; omega
      | succ k => exact ⟨k, rfl⟩
    refine HX.roundX (k, m / 256, b8 m :: acc) ⟨⟨?_, ?_, ?_, by simp; omega⟩, by dsimp only; omega⟩ rfl (run trivial) (by refine run ?_; rfl)
    · rw [← h1, Ber.intAcc, if_pos hm]
    · dsimp only; simp only [Ber.rb] at h2; omega
    · dsimp only; simp only [Ber.rb] at h3; omega
theorem refFromInt (b : List UInt8) : CFn Tryz.prog 81 [TBytes b] (TTup [okI .i64 (Ber.fromIntB b).1, okI .i64 (Ber.fromIntB b).2]) := by
  refine CallsC.of Tryz.call81 Tryz.func81 rfl Tryz.ntmps81 rfl fun w0 G0 S0 hs ho => ?_
  refine run ?_
  refine ⟨fun hb => ?_, fun hb => ?_, fun hb hc => ?_, fun hb hc => ?_⟩
  · rw [Ber.fromIntB, if_pos (by omega)]
  · rw [Ber.fromIntB, if_pos (by omega)]
  · have hs8 : (127 < (b.getD 0 0).toNat ∧ (-1 : Int) = -1) ∨ ((b.getD 0 0).toNat ≤ 127 ∧ (-1 : Int) = 0) := .inl ⟨Int.ofNat_lt.1 hc, rfl⟩
    refine HT.loopX (σ := Nat) [0] (fun i => [(5, okI .i64 (i : Int)), (4, okI .u64 (Ber.be (-1) (b.take i) % 18446744073709551616))]) (fun _ => []) (fun i => i ≤ b.length) (fun i => b.length - i) 0 (Nat.zero_le _) (run trivial) (by refine run ?_; rfl) ?_
    intro i hi
    by_cases hlt : i < b.length
    · have hsn := Ber.be_snoc (-1) b i hlt
      refine run ?_
      intro _
      exact HX.roundX (i + 1) ⟨by omega, by omega⟩ rfl (run trivial) (run trivial)
    · refine run ?_
      intro _
      refine ⟨_, fun _ => op_convi rfl rfl rfl, ?_⟩
      refine run ?_
      refine ⟨?_, ?_⟩
      · rw [Ber.fromIntB, if_neg (by omega), List.take_of_length_le (by omega)]; exact (Ber.wrap_be b (-1) (by omega) (by omega) hs8)
      · rw [Ber.fromIntB, if_neg (by omega)]
  · have hs8 : (127 < (b.getD 0 0).toNat ∧ (0 : Int) = -1) ∨ ((b.getD 0 0).toNat ≤ 127 ∧ (0 : Int) = 0) := .inr ⟨Nat.le_of_not_lt (fun h => hc (Int.ofNat_lt.2 h)), rfl⟩
    refine HT.loopX (σ := Nat) [0] (fun i => [(5, okI .i64 (i : Int)), (4, okI .u64 (Ber.be (0) (b.take i) % 18446744073709551616))]) (fun _ => []) (fun i => i ≤ b.length) (fun i => b.length - i) 0 (Nat.zero_le _) (run trivial) (by refine run ?_; rfl) ?_
    intro i hi
    by_cases hlt : i < b.length
    · have hsn := Ber.be_snoc (0) b i hlt
      refine run ?_
      intro _
      exact HX.roundX (i + 1) ⟨by omega, by omega⟩ rfl (run trivial) (run trivial)
    · refine run ?_
      intro _
      refine ⟨_, fun _ => op_convi rfl rfl rfl, ?_⟩
      refine run ?_
      refine ⟨?_, ?_⟩
      · rw [Ber.fromIntB, if_neg (by omega), List.take_of_length_le (by omega)]; exact (Ber.wrap_be b (0) (by omega) (by omega) hs8)
      · rw [Ber.fromIntB, if_neg (by omega)]
end Go.Proofs.YtgaahjmgneallaaGreat
set_option linter.unusedVariables false
namespace Go.Ms
open Go.Vk
theorem tag_flat (t : UInt8) (ls : List (List UInt8)) : Ber.tagB t [ls.flatten] = Ber.tagB t ls := by
  unfold Ber.tagB
  rw [Ber.tot_one, Ber.tot_flat]
  simp
theorem flat_snoc {α : Type} [Inhabited α] {f : α → List UInt8} {l : List α} {i : Nat} (h : i < l.length) : ((l.take (i + 1)).map f).flatten = ((l.take i).map f).flatten ++ f (l.getD i default) := by
  rw [map_snoc h, List.flatten_append]
  simp
theorem flat_len {α : Type} {f : α → List UInt8} {g : α → Nat} (h : ∀ a, (f a).length ≤ g a) (l : List α) : (l.map f).flatten.length ≤ sm g l := by
  rw [Ber.tot_flat]
  exact tot_map h l
theorem id_snoc {l : List (List UInt8)} {i : Nat} (h : i < l.length) : (l.take (i + 1)).flatten = (l.take i).flatten ++ l.getD i default := by
  have := flat_snoc (f := id) h
  simpa using this
theorem take_flat_len (l : List (List UInt8)) (i : Nat) : (l.take i).flatten.length ≤ Ber.tot l := by
  rw [Ber.tot_flat]
  unfold Ber.tot
  have := sm_take List.length l i
  exact this
end Go.Ms
set_option maxRecDepth 8000
set_option linter.unusedVariables false
namespace Go.Proofs.YtgaahjmgneallaaGreat
open Go.Vk
attribute [local irreducible] HT HX RegS RegA RegM OpP OpC AltT
attribute [local irreducible] Ber.tagB Ber.lenB Ber.intB Ms.textB Ms.wV Ms.wF Ms.filB Ms.piecesB Ms.tagF Fi.isF Fi.wt Ms.wM Ms.wA Ms.textsB Ms.modsB Ms.attrsB Ms.attB Ms.attrB Ms.modB
set_option maxHeartbeats 1000000 in
theorem tagD (t : UInt8) (ls : List (List UInt8)) (hl : Ber.tot ls ≤ 1000000000) (hn : ls.length ≤ 1000000000) : CFn Tryz.prog 31 [okI .u8 (t.toNat : Int), TSl 1 (cL 1 cB) ls] (TBytes (Ber.tagB t ls)) := by
  have htl := Ms.take_flat_len ls
  refine CallsC.of Tryz.call31 Tryz.func31 rfl Tryz.ntmps31 rfl fun w0 G0 S0 hs ho => ?_
  refine run ?_
  refine HT.loopX (σ := Nat × List UInt8 × Value) [0, 1, 4] (fun t' => [(5, TAnd (Is t'.2.2) (TBytes t'.2.1)), (6, okI .i64 (t'.1 : Int))]) (fun t' => [ownSl t'.2.2 1 5]) (fun t' => t'.1 ≤ ls.length ∧ t'.2.1 = (ls.take t'.1).flatten) (fun t' => ls.length - t'.1) (0, [], .slice none 0 0) ⟨Nat.zero_le _, rfl⟩ (run trivial) (run trivial) ?_
  rintro ⟨i, q, v⟩ ⟨hi, ha⟩
  dsimp only at hi ha ⊢
  have hql : q.length ≤ Ber.tot ls := by rw [ha]; exact htl i
  by_cases hlt : i < ls.length
  · have h1 := htl (i + 1)
    have h2 := Ms.id_snoc hlt
    rw [h2, ← ha, List.length_append] at h1
    clear htl
    refine run ?_
    intro v' _
    exact HX.roundX (i + 1, q ++ ls.getD i default, v') ⟨⟨by dsimp only; omega, by dsimp only; rw [h2, ha]⟩, by dsimp only; omega⟩ rfl (run trivial) (run trivial)
  · rw [List.take_of_length_le (by omega)] at ha
    have c1 := refTag t q (by omega)
    have e : Ber.tagB t ls = Ber.tagB t [q] := by rw [ha, Ms.tag_flat]
    rw [e]
    clear htl ha e
    exact run trivial
/-- tag of one part. -/
theorem tagD1 (t : UInt8) (a : List UInt8) (h : a.length ≤ 1000000000) : CFn Tryz.prog 31 [okI .u8 (t.toNat : Int), TSlX 1 (fun ts : List Ty => ts) [[TBytes a]]] (TBytes (Ber.tagB t [a])) := CFn.sub (tagD t [a] (by rw [Ber.tot_one]; exact h) (by simp)) (by exact byQ)
theorem refBool (b : Bool) : CFn Tryz.prog 125 [Is (.bool b)] (TBytes (Ms.boolB b)) := by
  unfold Ms.boolB
  refine CallsC.of Tryz.call125 Tryz.func125 rfl Tryz.ntmps125 rfl fun w0 G0 S0 hs ho => ?_
  refine run ?_
  refine ⟨fun h => ?_, fun h => ?_⟩ <;> simp [h] <;> rfl
theorem rfText25 (s : List UInt8) (hs9 : s.length ≤ 100000000) : CFn Tryz.prog 32 [Is (str s)] (TBytes (Ms.textB s)) := by
  have c1 := tagD1 4 s (by omega)
  have e : Ms.textB s = Ber.tagB 4 [s] := by unfold Ms.textB; rfl
  rw [e]
  refine CallsC.of Tryz.call32 Tryz.func32 rfl Tryz.ntmps32 rfl fun w0 G0 S0 hs ho => ?_
  exact run trivial
theorem rfNum25 (t : UInt8) (n : Int) (hn : Ms.okK n) : CFn Tryz.prog 34 [okI .u8 (t.toNat : Int), okI .i64 n] (TBytes (Ber.tagB t [Ber.intB n])) := by
  have h4 := Ber.intB_len n hn
  have c1 := tagD1 t (Ber.intB n) (by omega)
  have c2 := refInt n hn
  refine CallsC.of Tryz.call34 Tryz.func34 rfl Tryz.ntmps34 rfl fun w0 G0 S0 hs ho => ?_
  exact run trivial
set_option maxHeartbeats 1000000 in
theorem rfRows25 (t : UInt8) (l : List (List UInt8)) (hl : Ms.sm Ms.wV l ≤ 100000000) : CFn Tryz.prog 114 [okI .u8 (t.toNat : Int), TSl 1 En.cS l] (TBytes (Ms.textsB t l)) := by
  have hlen := Ms.sm_len Ms.wV_pos l
  have e : Ms.textsB t l = Ber.tagB t [(l.map Ms.textB).flatten] := by unfold Ms.textsB; rw [Ms.tag_flat]
  rw [e]
  refine CallsC.of Tryz.call114 Tryz.func114 rfl Tryz.ntmps114 rfl fun w0 G0 S0 hs ho => ?_
  refine run ?_
  refine HT.loopX (σ := Nat × List UInt8 × Value) [0, 1, 4] (fun t' => [(5, TAnd (Is t'.2.2) (TBytes t'.2.1)), (6, okI .i64 (t'.1 : Int))]) (fun t' => [ownSl t'.2.2 1 5]) (fun t' => t'.1 ≤ l.length ∧ t'.2.1 = ((l.take t'.1).map Ms.textB).flatten) (fun t' => l.length - t'.1) (0, [], .slice none 0 0) ⟨Nat.zero_le _, rfl⟩ (run trivial) (run trivial) ?_
  rintro ⟨i, q, v⟩ ⟨hi, ha⟩
  dsimp only at hi ha ⊢
  have hql : q.length ≤ Ms.sm Ms.wV l := by rw [ha]; exact Nat.le_trans (Ms.flat_len Ms.textB_le _) (Ms.sm_take _ _ _)
  by_cases hlt : i < l.length
  · have h2 := Ms.flat_snoc (f := Ms.textB) hlt
    have h9 := Ms.sm_mem (f := Ms.wV) (En.getD_mem hlt)
    have h8 : Ms.wV (l.getD i default) = (l.getD i default).length + 10 := by unfold Ms.wV; rfl
    have h7 := Ms.textB_le (l.getD i default)
    have c1 := rfText25 (l.getD i default) (by omega)
    refine run ?_
    intro v' _
    exact HX.roundX (i + 1, q ++ Ms.textB (l.getD i default), v') ⟨⟨by dsimp only; omega, by dsimp only; rw [h2, ha]⟩, by dsimp only; omega⟩ rfl (run trivial) (run trivial)
  · rw [List.take_of_length_le (by omega)] at ha
    rw [← ha]
    have c1 := tagD1 t q (by omega)
    clear ha e
    exact run trivial
theorem rfAttr25 (t : List UInt8) (l : List (List UInt8)) (hl : Ms.wAt t l ≤ 100000000) : CFn Tryz.prog 72 [Is (str t), TSl 1 En.cS l] (TBytes (Ms.attB t l)) := by
  have hd : Ms.wAt t l = t.length + (Ms.sm Ms.wV l + 10) + 30 := rfl
  have c1 := rfText25 t (by omega)
  have c2 := rfRows25 49 l (by omega)
  have h1 := Ms.textB_le t
  have h2 := Ms.textsB_le 49 l
  have hd1 : Ms.wV t = t.length + 10 := by unfold Ms.wV; rfl
  have hd2 : Ms.wVs l = Ms.sm Ms.wV l + 10 := rfl
  have e : Ms.attB t l = Ber.tagB 48 [Ms.textB t, Ms.textsB 49 l] := by unfold Ms.attB; rfl
  rw [e]
  have c4 : CFn Tryz.prog 31 [okI .u8 48, TSlX 1 (fun ts : List Ty => ts) [[TBytes (Ms.textB t)], [TBytes (Ms.textsB 49 l)]]] (TBytes (Ber.tagB 48 [Ms.textB t, Ms.textsB 49 l])) := CFn.sub (tagD 48 [Ms.textB t, Ms.textsB 49 l] (by rw [Ms.tot_cons, Ms.tot_cons, Ms.tot_nil]; omega) (by simp)) (by exact byQ)
  refine CallsC.of Tryz.call72 Tryz.func72 rfl Tryz.ntmps72 rfl fun w0 G0 S0 hs ho => ?_
  exact run trivial
set_option maxHeartbeats 1000000 in
theorem rfAttrs25 (l : List En.Attr) (hl : Ms.sm Ms.wA l ≤ 100000000) : CFn Tryz.prog 33 [TSl 2 En.cAttr l] (TBytes (Ms.attrsB l)) := by
  have hlen := Ms.sm_len Ms.wA_pos l
  have e : Ms.attrsB l = Ber.tagB 48 [(l.map Ms.attrB).flatten] := by unfold Ms.attrsB; rw [Ms.tag_flat]
  rw [e]
  refine CallsC.of Tryz.call33 Tryz.func33 rfl Tryz.ntmps33 rfl fun w0 G0 S0 hs ho => ?_
  refine run ?_
  refine HT.loopX (σ := Nat × List UInt8 × Value) [0, 2] (fun t' => [(3, TAnd (Is t'.2.2) (TBytes t'.2.1)), (4, okI .i64 (t'.1 : Int))]) (fun t' => [ownSl t'.2.2 1 5]) (fun t' => t'.1 ≤ l.length ∧ t'.2.1 = ((l.take t'.1).map Ms.attrB).flatten) (fun t' => l.length - t'.1) (0, [], .slice none 0 0) ⟨Nat.zero_le _, rfl⟩ (run trivial) (run trivial) ?_
  rintro ⟨i, q, v⟩ ⟨hi, ha⟩
  dsimp only at hi ha ⊢
  have hql : q.length ≤ Ms.sm Ms.wA l := by rw [ha]; exact Nat.le_trans (Ms.flat_len Ms.attrB_le _) (Ms.sm_take _ _ _)
  by_cases hlt : i < l.length
  · have h2 := Ms.flat_snoc (f := Ms.attrB) hlt
    have h7 := Ms.attrB_le (l.getD i default)
    have h9 := Ms.sm_mem (f := Ms.wA) (En.getD_mem hlt)
    have c1 : CFn Tryz.prog 72 [Is (str (l.getD i default).typ), TSl 1 En.cS (l.getD i default).vals] (TBytes (Ms.attrB (l.getD i default))) := by
      have h8 : Ms.wA (l.getD i default) = Ms.wAt (l.getD i default).typ (l.getD i default).vals := by unfold Ms.wA; rfl
      have e : Ms.attrB (l.getD i default) = Ms.attB (l.getD i default).typ (l.getD i default).vals := by unfold Ms.attrB; rfl
      rw [e]
      exact rfAttr25 _ _ (by omega)
    have pl := Plan.mk' 5 [(1,3,[]),(2,3,[]),(3,3,[]),(4,3,[]),(5,3,[]),(6,3,[]),(7,3,[]),(8,3,[]),(9,3,[]),(10,3,[]),(11,3,[]),(0,2,[1]),(12,0,[1]),(13,3,[])]
    refine run ?_
    intro v' _
    exact HX.roundX (i + 1, q ++ Ms.attrB (l.getD i default), v') ⟨⟨by dsimp only; omega, by dsimp only; rw [h2, ha]⟩, by dsimp only; omega⟩ rfl (run trivial) (run trivial)
  · rw [List.take_of_length_le (by omega)] at ha
    rw [← ha]
    have c1 := tagD1 48 q (by omega)
    clear ha e
    exact run trivial
end Go.Proofs.YtgaahjmgneallaaGreat
set_option linter.unusedVariables false
namespace Go.Ms
open Go.Vk
theorem tagF_0 : tagF 0 = 160 := by decide +kernel
theorem tagF_1 : tagF 1 = 161 := by decide +kernel
theorem tagF_2 : tagF 2 = 162 := by decide +kernel
theorem tagF_3 : tagF 3 = 163 := by decide +kernel
theorem tagF_4 : tagF 4 = 164 := by decide +kernel
theorem tagF_5 : tagF 5 = 165 := by decide +kernel
theorem tagF_6 : tagF 6 = 166 := by decide +kernel
theorem pcs_flat_le (l : List (List UInt8)) {i : Nat} (h : i ≤ l.length) : (pcs l i).flatten.length ≤ sm wV l := by
  rw [Ber.tot_flat]
  exact Nat.le_trans (pcs_le l i h).1 (sm_take _ _ _)
theorem pcs_flat_succ (l : List (List UInt8)) (i : Nat) : (pcs l (i + 1)).flatten = (pcs l i).flatten ++ (pieceL l.length i (l.getD i default)).flatten := by
  rw [pcs, List.flatten_append]
theorem pieceL_m {n i : Nat} {s : List UInt8} (h : 0 < i ∧ i + 1 < n) : (pieceL n i s).flatten = Ber.tagB 129 [s] := by
  unfold pieceL; rw [if_pos h]; simp
theorem pieceL_n {n i : Nat} {s : List UInt8} (h : ¬ (0 < i ∧ i + 1 < n)) (hs : s = []) : (pieceL n i s).flatten = [] := by
  unfold pieceL; rw [if_neg h, if_pos hs]; rfl
theorem pieceL_f {n i : Nat} {s : List UInt8} (h : i = 0) (hs : s ≠ []) : (pieceL n i s).flatten = Ber.tagB 128 [s] := by
  unfold pieceL; rw [if_neg (by omega), if_neg hs, if_pos h]; simp
theorem pieceL_l {n i : Nat} {s : List UInt8} (h : ¬ (0 < i ∧ i + 1 < n)) (h0 : i ≠ 0) (hs : s ≠ []) : (pieceL n i s).flatten = Ber.tagB 130 [s] := by
  unfold pieceL; rw [if_neg h, if_neg hs, if_neg h0]; simp
end Go.Ms
set_option maxRecDepth 8000
set_option linter.unusedVariables false
namespace Go.Proofs.YtgaahjmgneallaaGreat
open Go.Vk
attribute [local irreducible] HT HX RegS RegA RegM OpP OpC AltT
attribute [local irreducible] Ber.tagB Ber.lenB Ber.intB Ms.textB Ms.wV Ms.wF Ms.filB Ms.piecesB Ms.tagF Fi.isF Fi.wt Ms.wM Ms.wA Ms.textsB Ms.modsB Ms.attrsB Ms.attB Ms.attrB Ms.modB Ms.pcs Ms.pieceL
theorem tagD2 (t : UInt8) (a b : List UInt8) (h : a.length + b.length ≤ 1000000000) : CFn Tryz.prog 31 [okI .u8 (t.toNat : Int), TSlX 1 (fun ts : List Ty => ts) [[TBytes a], [TBytes b]]] (TBytes (Ber.tagB t [a, b])) := CFn.sub (tagD t [a, b] (by rw [Ms.tot_cons, Ms.tot_cons, Ms.tot_nil]; exact h) (by simp)) (by exact byQ)
set_option maxHeartbeats 1000000 in
theorem rfMods25 (l : List Ms.Mod) (hl : Ms.sm Ms.wM l ≤ 100000000) (hk : ∀ m ∈ l, Ms.okK m.kind) : CFn Tryz.prog 127 [TSl 3 Ms.cMod l] (TBytes (Ms.modsB l)) := by
  have hlen := Ms.sm_len Ms.wM_pos l
  have e : Ms.modsB l = Ber.tagB 48 [(l.map Ms.modB).flatten] := by unfold Ms.modsB; rw [Ms.tag_flat]
  rw [e]
  have htl : ∀ i, ((l.take i).map Ms.modB).flatten.length ≤ Ms.sm Ms.wM l := fun i => by
    rw [Ber.tot_flat]
    exact Nat.le_trans (Ms.tot_mem (f := Ms.wM) (g := Ms.modB) (l.take i) (fun a ha => Ms.modB_le (hk a (List.mem_of_mem_take ha)))) (Ms.sm_take _ _ _)
  refine CallsC.of Tryz.call127 Tryz.func127 rfl Tryz.ntmps127 rfl fun w0 G0 S0 hs ho => ?_
  refine run ?_
  refine HT.loopX (σ := Nat × List UInt8 × Value) [0, 2] (fun t' => [(3, TAnd (Is t'.2.2) (TBytes t'.2.1)), (4, okI .i64 (t'.1 : Int))]) (fun t' => [ownSl t'.2.2 1 5]) (fun t' => t'.1 ≤ l.length ∧ t'.2.1 = ((l.take t'.1).map Ms.modB).flatten) (fun t' => l.length - t'.1) (0, [], .slice none 0 0) ⟨Nat.zero_le _, rfl⟩ (run trivial) (run trivial) ?_
  rintro ⟨i, q, v⟩ ⟨hi, ha⟩
  dsimp only at hi ha ⊢
  have hql := htl i
  rw [← ha] at hql
  by_cases hlt : i < l.length
  · have h2 := Ms.flat_snoc (f := Ms.modB) hlt
    have hk9 := hk _ (En.getD_mem hlt)
    have h7 := Ms.modB_le hk9
    have h9 := Ms.sm_mem (f := Ms.wM) (En.getD_mem hlt)
    have h8 : Ms.wM (l.getD i default) = Ms.wAt (l.getD i default).typ (l.getD i default).vals + 40 := by unfold Ms.wM; rfl
    have c1 := rfAttr25 (l.getD i default).typ (l.getD i default).vals (by omega)
    have c2 := rfNum25 10 (l.getD i default).kind hk9
    have h4 := Ber.intB_len (l.getD i default).kind hk9
    have h5 := Ms.attB_le (l.getD i default).typ (l.getD i default).vals
    have h3 := Ms.tagB_le 10 [Ber.intB (l.getD i default).kind]
    rw [Ber.tot_one] at h3
    have c5 : CFn Tryz.prog 31 [okI .u8 48, TSlX 1 (fun ts : List Ty => ts) [[TBytes (Ber.tagB 10 [Ber.intB (l.getD i default).kind])], [TBytes (Ms.attB (l.getD i default).typ (l.getD i default).vals)]]] (TBytes (Ms.modB (l.getD i default))) := by
      have e : Ms.modB (l.getD i default) = Ber.tagB 48 [Ber.tagB 10 [Ber.intB (l.getD i default).kind], Ms.attB (l.getD i default).typ (l.getD i default).vals] := by unfold Ms.modB; rfl
      rw [e]
      exact tagD2 48 _ _ (by omega)
    have pl := Plan.mk' 5 [(1,3,[]),(2,3,[]),(3,3,[]),(4,3,[]),(5,3,[]),(6,3,[]),(7,3,[]),(8,3,[]),(9,3,[]),(10,3,[]),(11,3,[]),(12,3,[]),(13,3,[]),(14,3,[]),(15,3,[]),(16,3,[]),(17,3,[]),(18,3,[]),(19,3,[]),(0,2,[1]),(20,0,[1]),(21,3,[])]
    clear hk htl
    refine run ?_
    intro v' _
    exact HX.roundX (i + 1, q ++ Ms.modB (l.getD i default), v') ⟨⟨by dsimp only; omega, by dsimp only; rw [h2, ha]⟩, by dsimp only; omega⟩ rfl (run trivial) (run trivial)
  · rw [List.take_of_length_le (by omega)] at ha
    rw [← ha]
    have c1 := tagD1 48 q (by omega)
    clear ha e htl
    exact run trivial
set_option maxHeartbeats 4000000 in
theorem rfFilterS25 (k : Int) (t v : List UInt8) (s : List (List UInt8)) (ks : List Fi.Fil) (hk : (k = 0 ∨ k = 1 ∨ k = 2) ∨ ((k = 3 ∨ k = 4 ∨ k = 5 ∨ k = 6 ∨ k = 7) ∧ ks = [])) (hw : Ms.wF (.mk k t v s ks) ≤ 100000000) (IH : ∀ f ∈ ks, CFn Tryz.prog 126 [TAgg (Fi.cF f)] (TBytes (Ms.filB f))) : CFn Tryz.prog 126 [TAgg (Fi.cF (.mk k t v s ks))] (TBytes (Ms.filB (.mk k t v s ks))) := by
  rw [Ms.wF_mk] at hw
  rw [Fi.cF_open]
  dsimp only [Fi.Fil.kind, Fi.Fil.typ, Fi.Fil.val, Fi.Fil.subs, Fi.Fil.kids]
  have ct := rfText25 t (by omega)
  have hT := Ms.textB_le t
  have hd1 : Ms.wV t = t.length + 10 := by unfold Ms.wV; rfl
  rcases hk with hk | ⟨hk, rfl⟩
  · have hlen := Ms.sm_len Ms.wF_pos ks
    have htl : ∀ i, ((ks.take i).map Ms.filB).flatten.length ≤ Ms.sm Ms.wF ks := fun i => Nat.le_trans (Ms.flat_len Ms.filB_le _) (Ms.sm_take _ _ _)
    have e : Ms.filB (.mk k t v s ks) = Ber.tagB (Ms.tagF k) [(ks.map Ms.filB).flatten] := by rw [Ms.filB_b hk, Ms.tag_flat]
    rw [e]
    clear ct e
    refine CallsC.of Tryz.call126 Tryz.func126 rfl Tryz.ntmps126 rfl fun w0 G0 S0 hs ho => ?_
    refine run ?_
    refine HT.loopX (σ := Nat × List UInt8 × Value) [1, 2] (fun t' => [(3, TAnd (Is t'.2.2) (TBytes t'.2.1)), (4, okI .i64 (t'.1 : Int))]) (fun t' => [ownSl t'.2.2 1 5]) (fun t' => t'.1 ≤ ks.length ∧ t'.2.1 = ((ks.take t'.1).map Ms.filB).flatten) (fun t' => ks.length - t'.1) (0, [], .slice none 0 0) ⟨Nat.zero_le _, rfl⟩ (run trivial) (run trivial) ?_
    rintro ⟨i, q, v'⟩ ⟨hi, ha⟩
    dsimp only at hi ha ⊢
    have hql := htl i
    rw [← ha] at hql
    by_cases hlt : i < ks.length
    · have c1 := IH _ (En.getD_mem hlt)
      have h2 := Ms.flat_snoc (f := Ms.filB) hlt
      have h9 := Ms.sm_mem (f := Ms.wF) (En.getD_mem hlt)
      have h7 := Ms.filB_le (ks.getD i default)
      clear IH htl
      refine run ?_
      intro v2 _
      exact HX.roundX (i + 1, q ++ Ms.filB (ks.getD i default), v2) ⟨⟨by dsimp only; omega, by dsimp only; rw [h2, ha]⟩, by dsimp only; omega⟩ rfl (run trivial) (run trivial)
    · rw [List.take_of_length_le (by omega)] at ha
      rw [← ha]
      clear IH htl
      rcases hk with rfl | rfl | rfl
      · have c1 := tagD1 160 q (by omega)
        rw [Ms.tagF_0]
        exact run trivial
      · have c1 := tagD1 161 q (by omega)
        rw [Ms.tagF_1]
        exact run trivial
      · have c1 := tagD1 162 q (by omega)
        rw [Ms.tagF_2]
        exact run trivial
  · have hz0 : ((@List.nil Fi.Fil).length : Int) = 0 := rfl
    by_cases h7 : k = 7
    · subst h7
      have c2 := tagD1 135 t (by omega)
      rw [Ms.filB_7]
      clear IH ct
      refine CallsC.of Tryz.call126 Tryz.func126 rfl Tryz.ntmps126 rfl fun w0 G0 S0 hs ho => ?_
      refine run ?_
      refine HT.loopX (σ := Unit) [1, 2] (fun _ => [(3, Is (.slice none 0 0)), (4, okI .i64 0)]) (fun _ => []) (fun _ => True) (fun _ => 0) () trivial (run trivial) (run trivial) ?_
      intro _ _
      exact run trivial
    by_cases h4 : k = 4
    · subst h4
      have hlen := Ms.sm_len Ms.wV_pos s
      have hP := Ms.piecesB_le s
      have hd2 : Ms.wVs s = Ms.sm Ms.wV s + 10 := rfl
      have htl := fun i (h : i ≤ s.length) => Ms.pcs_flat_le s h
      have e : Ms.piecesB s = Ber.tagB 48 [(Ms.pcs s s.length).flatten] := by unfold Ms.piecesB; rw [Ms.tag_flat]
      rw [Ms.filB_4, Ms.tagF_4]
      have c2 := tagD2 164 (Ms.textB t) (Ms.piecesB s) (by omega)
      rw [e] at c2 ⊢
      clear IH e hP
      refine CallsC.of Tryz.call126 Tryz.func126 rfl Tryz.ntmps126 rfl fun w0 G0 S0 hs ho => ?_
      refine run ?_
      refine HT.loopX (σ := Unit) [1, 2] (fun _ => [(3, Is (.slice none 0 0)), (4, okI .i64 0)]) (fun _ => []) (fun _ => True) (fun _ => 0) () trivial (run trivial) (run trivial) ?_
      intro _ _
      refine run ?_
      intros
      refine HT.loopX (σ := Nat × List UInt8 × Value) [1, 2, 5] (fun t' => [(3, TAnd (Is t'.2.2) (TBytes t'.2.1)), (6, okI .i64 (t'.1 : Int))]) (fun t' => [ownSl t'.2.2 1 5]) (fun t' => t'.1 ≤ s.length ∧ t'.2.1 = (Ms.pcs s t'.1).flatten) (fun t' => s.length - t'.1) (0, [], .slice none 0 0) ⟨Nat.zero_le _, by dsimp only; unfold Ms.pcs; rfl⟩ (run trivial) (run trivial) ?_
      rintro ⟨i, q, v'⟩ ⟨hi, ha⟩
      dsimp only at hi ha ⊢
      have hql := htl i hi
      rw [← ha] at hql
      by_cases hlt : i < s.length
      · have h2 := Ms.pcs_flat_succ s i
        have h3 := htl (i + 1) hlt
        have h9 := Ms.sm_mem (f := Ms.wV) (En.getD_mem hlt)
        have h8 : Ms.wV (s.getD i default) = (s.getD i default).length + 10 := by unfold Ms.wV; rfl
        have p1 := tagD1 128 (s.getD i default) (by omega)
        have p2 := tagD1 129 (s.getD i default) (by omega)
        have p3 := tagD1 130 (s.getD i default) (by omega)
        have l1 := Ms.tag1_le 128 (s.getD i default)
        have l2 := Ms.tag1_le 129 (s.getD i default)
        have l3 := Ms.tag1_le 130 (s.getD i default)
        rw [← ha] at h2
        clear c2 ct htl
        refine run ?_
        refine ⟨fun w' _ g1 => ?_, fun w' _ g1 g2 => ?_, fun w' _ g1 g2 g3 => ?_, fun _ g1 g2 g3 => ?_⟩
        · have e : (Ms.pieceL s.length i (s.getD i default)).flatten = Ber.tagB 128 [s.getD i default] := Ms.pieceL_f (by omega) g1.2
          exact HX.roundX (i + 1, q ++ Ber.tagB 128 [s.getD i default], w') ⟨⟨by dsimp only; omega, by dsimp only; rw [h2, e]⟩, by dsimp only; omega⟩ rfl (run trivial) (run trivial)
        · have e : (Ms.pieceL s.length i (s.getD i default)).flatten = Ber.tagB 129 [s.getD i default] := Ms.pieceL_m (by omega)
          exact HX.roundX (i + 1, q ++ Ber.tagB 129 [s.getD i default], w') ⟨⟨by dsimp only; omega, by dsimp only; rw [h2, e]⟩, by dsimp only; omega⟩ rfl (run trivial) (run trivial)
        · have e : (Ms.pieceL s.length i (s.getD i default)).flatten = Ber.tagB 130 [s.getD i default] := Ms.pieceL_l (by omega) (by omega) g3.2
          exact HX.roundX (i + 1, q ++ Ber.tagB 130 [s.getD i default], w') ⟨⟨by dsimp only; omega, by dsimp only; rw [h2, e]⟩, by dsimp only; omega⟩ rfl (run trivial) (run trivial)
        · have e : (Ms.pieceL s.length i (s.getD i default)).flatten = [] := by
            refine Ms.pieceL_n (by omega) ?_
            rcases g3 with g3 | g3
            · rcases g1 with g1 | g1
              · omega
              · exact Decidable.not_not.1 g1
            · exact Decidable.not_not.1 g3
          exact HX.roundX (i + 1, q, v') ⟨⟨by dsimp only; omega, by dsimp only; rw [h2, e, List.append_nil]⟩, by dsimp only; omega⟩ rfl (run trivial) (run trivial)
      · have hie : i = s.length := by omega
        subst hie
        rw [← ha] at c2 ⊢
        have c3 := tagD1 48 q (by omega)
        clear htl ha
        exact run trivial
    · have cv := rfText25 v (by omega)
      have hV := Ms.textB_le v
      have hd2 : Ms.wV v = v.length + 10 := by unfold Ms.wV; rfl
      rw [Ms.filB_3 (by omega)]
      clear IH
      have hk3 : k = 3 ∨ k = 5 ∨ k = 6 := by omega
      rcases hk3 with rfl | rfl | rfl
      · have c2 := tagD2 163 (Ms.textB t) (Ms.textB v) (by omega)
        rw [Ms.tagF_3]
        refine CallsC.of Tryz.call126 Tryz.func126 rfl Tryz.ntmps126 rfl fun w0 G0 S0 hs ho => ?_
        refine run ?_
        refine HT.loopX (σ := Unit) [1, 2] (fun _ => [(3, Is (.slice none 0 0)), (4, okI .i64 0)]) (fun _ => []) (fun _ => True) (fun _ => 0) () trivial (run trivial) (run trivial) ?_
        intro _ _
        exact run trivial
      · have c2 := tagD2 165 (Ms.textB t) (Ms.textB v) (by omega)
        rw [Ms.tagF_5]
        refine CallsC.of Tryz.call126 Tryz.func126 rfl Tryz.ntmps126 rfl fun w0 G0 S0 hs ho => ?_
        refine run ?_
        refine HT.loopX (σ := Unit) [1, 2] (fun _ => [(3, Is (.slice none 0 0)), (4, okI .i64 0)]) (fun _ => []) (fun _ => True) (fun _ => 0) () trivial (run trivial) (run trivial) ?_
        intro _ _
        exact run trivial
      · have c2 := tagD2 166 (Ms.textB t) (Ms.textB v) (by omega)
        rw [Ms.tagF_6]
        refine CallsC.of Tryz.call126 Tryz.func126 rfl Tryz.ntmps126 rfl fun w0 G0 S0 hs ho => ?_
        refine run ?_
        refine HT.loopX (σ := Unit) [1, 2] (fun _ => [(3, Is (.slice none 0 0)), (4, okI .i64 0)]) (fun _ => []) (fun _ => True) (fun _ => 0) () trivial (run trivial) (run trivial) ?_
        intro _ _
        exact run trivial
theorem rfFilterN25 : ∀ (N : Nat) (f : Fi.Fil), Fi.nodes f ≤ N → Ms.wF f ≤ 100000000 → Ms.Prf f → CFn Tryz.prog 126 [TAgg (Fi.cF f)] (TBytes (Ms.filB f))
  | 0, .mk k t v s ks, h, _, _ => by unfold Fi.nodes at h; omega
  | N + 1, .mk k t v s ks, h, hw, hp => by
    have e : Fi.nodes (.mk k t v s ks) = 1 + Fi.nodesL ks := by unfold Fi.nodes; rfl
    rw [e] at h
    have hw' := hw
    rw [Ms.wF_mk] at hw'
    unfold Ms.Prf at hp
    exact rfFilterS25 k t v s ks hp.1 hw (fun f hf => rfFilterN25 N f (by have := Fi.kid_lt hf; omega) (by have := Ms.sm_mem (f := Ms.wF) hf; omega) (Ms.PrfL_mem.1 hp.2 f hf))
theorem rfFilter25 (f : Fi.Fil) (hw : Ms.wF f ≤ 100000000) (hp : Ms.Prf f) : CFn Tryz.prog 126 [TAgg (Fi.cF f)] (TBytes (Ms.filB f)) := rfFilterN25 (Fi.nodes f) f (Nat.le_refl _) hw hp
end Go.Proofs.YtgaahjmgneallaaGreat
