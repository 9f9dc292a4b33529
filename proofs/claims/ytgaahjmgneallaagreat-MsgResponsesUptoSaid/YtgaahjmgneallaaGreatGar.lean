/-
  The contracts of the document's op and bytes. Printed by mkma.py.
  The contracts of whether a filter may be: the document's.
  The contracts of the document's Same.
  The contracts of the document's Same, blank, lists, kind, Is, Encode.
  The laws BerCuts, BerBack, BerLong, for all arguments.
  The law BerTags, for all arguments.
  The law BerAlls, for all arguments; All and the document's All.
  The contracts of msg's items: apart, is, take, num; and of Decode, at an unbind.
-/
import Derived.Test.YtgaahjmgneallaaGreatGaq
import Derived.Test.YtgaahjmgneallaaGreatGal
import Derived.Test.YtgaahjmgneallaaGreatGan
import Derived.Test.YtgaahjmgneallaaGreatGam
import Derived.Test.YtgaahjmgneallaaGreatGao
import Derived.Test.YtgaahjmgneallaaGreatGak
import Derived.Test.YtgaahjmgneallaaGreatGap
set_option linter.unusedSimpArgs false
set_option linter.unusedVariables false
set_option linter.unusedVariables false
set_option maxRecDepth 8000
set_option linter.unusedVariables false
namespace Go.Proofs.YtgaahjmgneallaaGreat
open Go.Vk
attribute [local irreducible] HT HX RegS RegA RegM OpP OpC AltT
attribute [local irreducible] Ber.tagB Ber.lenB Ber.intB Ms.textB Ms.wV Ms.wF Ms.filB Ms.piecesB Ms.tagF Fi.isF Fi.wt Ms.wM Ms.wA Ms.textsB Ms.modsB Ms.attrsB
set_option maxHeartbeats 8000000 in
theorem rfOp0 (r : Ms.Req) (ha : Ms.Okr r) (hk : r.kind = 0) : CFn Tryz.prog 95 [TAgg (Ms.cReq r)] (TBytes (Ms.opB r)) := by
  obtain ⟨num, kind, dn, pass, scope, limit, fil, want, mods, attrs, rdn, keep, above, up, avaT, avaV, which⟩ := r
  dsimp only at hk
  subst hk
  obtain ⟨o1, o2, o3, o4, o5, o6, o7, o8, o9, o10, o11, o12, o13, o14, o15, o16, o17⟩ := ha
  dsimp only at o1 o2 o3 o4 o5 o6 o7 o8 o9 o10 o11 o12 o13 o14 o15 o16 o17
  have e : Ms.opB ⟨num, 0, dn, pass, scope, limit, fil, want, mods, attrs, rdn, keep, above, up, avaT, avaV, which⟩ = Ber.tagB 96 [Ber.tagB 2 [Ber.intB 3], Ms.textB dn, Ber.tagB 128 [pass]] := rfl
  rw [e]
  dsimp only [Ms.cReq]
  have cN := rfText25 dn (by omega)
  have lN := Ms.textB_le' dn
  have c1 : CFn Tryz.prog 34 [okI .u8 2, okI .i64 3] (TBytes (Ber.tagB 2 [Ber.intB 3])) := rfNum25 2 3 (by unfold Ms.okK; omega)
  have l1 := Ms.intB_le' (n := 3) (by unfold Ms.okK; omega)
  have l2 := Ms.tag1_le 2 (Ber.intB 3)
  have l3 := Ms.tag1_le 128 pass
  have c3 : CFn Tryz.prog 31 [okI .u8 128, TSlX 1 (fun ts : List Ty => ts) [[TBytes (pass)]]] (TBytes (Ber.tagB 128 [pass])) := CFn.sub (tagD 128 [pass] (by rw [Ms.tot_cons, Ms.tot_nil]; omega) (by simp)) (by exact byQ)
  have c4 : CFn Tryz.prog 31 [okI .u8 96, TSlX 1 (fun ts : List Ty => ts) [[TBytes (Ber.tagB 2 [Ber.intB 3])], [TBytes (Ms.textB dn)], [TBytes (Ber.tagB 128 [pass])]]] (TBytes (Ber.tagB 96 [Ber.tagB 2 [Ber.intB 3], Ms.textB dn, Ber.tagB 128 [pass]])) := CFn.sub (tagD 96 [Ber.tagB 2 [Ber.intB 3], Ms.textB dn, Ber.tagB 128 [pass]] (by rw [Ms.tot_cons, Ms.tot_cons, Ms.tot_cons, Ms.tot_nil]; omega) (by simp)) (by exact byQ)
  clear o1 o2 o3 o4 o5 o12 o13 o14 o15 o16 o17 e
  refine CallsC.of Tryz.call95 Tryz.func95 rfl Tryz.ntmps95 rfl fun w0 G0 S0 hs ho => ?_
  exact run trivial
set_option maxHeartbeats 8000000 in
theorem rfOp3 (r : Ms.Req) (ha : Ms.Okr r) (hk : r.kind = 3) (hp : Ms.Prf r.fil) : CFn Tryz.prog 95 [TAgg (Ms.cReq r)] (TBytes (Ms.opB r)) := by
  obtain ⟨num, kind, dn, pass, scope, limit, fil, want, mods, attrs, rdn, keep, above, up, avaT, avaV, which⟩ := r
  dsimp only at hk
  subst hk
  obtain ⟨o1, o2, o3, o4, o5, o6, o7, o8, o9, o10, o11, o12, o13, o14, o15, o16, o17⟩ := ha
  dsimp only at o1 o2 o3 o4 o5 o6 o7 o8 o9 o10 o11 o12 o13 o14 o15 o16 o17
  have e : Ms.opB ⟨num, 3, dn, pass, scope, limit, fil, want, mods, attrs, rdn, keep, above, up, avaT, avaV, which⟩ = Ber.tagB 99 [Ms.textB dn, Ber.tagB 10 [Ber.intB scope], Ber.tagB 10 [Ber.intB 0], Ber.tagB 2 [Ber.intB limit], Ber.tagB 2 [Ber.intB 0], Ber.tagB 1 [Ms.boolB false], Ms.filB fil, Ms.textsB 48 want] := rfl
  rw [e]
  dsimp only [Ms.cReq]
  have cN := rfText25 dn (by omega)
  have lN := Ms.textB_le' dn
  have c1 : CFn Tryz.prog 34 [okI .u8 10, okI .i64 scope] (TBytes (Ber.tagB 10 [Ber.intB scope])) := rfNum25 10 scope o3
  have c2 : CFn Tryz.prog 34 [okI .u8 10, okI .i64 0] (TBytes (Ber.tagB 10 [Ber.intB 0])) := rfNum25 10 0 Ms.okK0
  have c3 : CFn Tryz.prog 34 [okI .u8 2, okI .i64 limit] (TBytes (Ber.tagB 2 [Ber.intB limit])) := rfNum25 2 limit o4
  have c4 : CFn Tryz.prog 34 [okI .u8 2, okI .i64 0] (TBytes (Ber.tagB 2 [Ber.intB 0])) := rfNum25 2 0 Ms.okK0
  have l1 := Ms.intB_le' (n := 0) (by unfold Ms.okK; omega)
  have l2 := Ms.intB_le' o3
  have l3 := Ms.intB_le' o4
  have cb : CFn Tryz.prog 125 [Is (.bool false)] (TBytes (Ms.boolB false)) := refBool false
  have lb := Ms.boolB_len false
  have cf := rfFilter25 fil (by omega) hp
  rw [Fi.cF_open fil] at cf
  have lf := Ms.filB_le fil
  have cw := rfRows25 48 want (by omega)
  have lw := Ms.textsB_le 48 want
  have lw' : Ms.wVs want = Ms.sm Ms.wV want + 10 := rfl
  have q0 := Ms.tag1_le 10 (Ber.intB scope)
  have q1 := Ms.tag1_le 10 (Ber.intB 0)
  have q2 := Ms.tag1_le 2 (Ber.intB limit)
  have q3 := Ms.tag1_le 2 (Ber.intB 0)
  have q4 := Ms.tag1_le 1 (Ms.boolB false)
  have d5 : CFn Tryz.prog 31 [okI .u8 1, TSlX 1 (fun ts : List Ty => ts) [[TBytes (Ms.boolB false)]]] (TBytes (Ber.tagB 1 [Ms.boolB false])) := CFn.sub (tagD 1 [Ms.boolB false] (by rw [Ms.tot_cons, Ms.tot_nil]; omega) (by simp)) (by exact byQ)
  have d6 : CFn Tryz.prog 31 [okI .u8 99, TSlX 1 (fun ts : List Ty => ts) [[TBytes (Ms.textB dn)], [TBytes (Ber.tagB 10 [Ber.intB scope])], [TBytes (Ber.tagB 10 [Ber.intB 0])], [TBytes (Ber.tagB 2 [Ber.intB limit])], [TBytes (Ber.tagB 2 [Ber.intB 0])], [TBytes (Ber.tagB 1 [Ms.boolB false])], [TBytes (Ms.filB fil)], [TBytes (Ms.textsB 48 want)]]] (TBytes (Ber.tagB 99 [Ms.textB dn, Ber.tagB 10 [Ber.intB scope], Ber.tagB 10 [Ber.intB 0], Ber.tagB 2 [Ber.intB limit], Ber.tagB 2 [Ber.intB 0], Ber.tagB 1 [Ms.boolB false], Ms.filB fil, Ms.textsB 48 want])) := CFn.sub (tagD 99 [Ms.textB dn, Ber.tagB 10 [Ber.intB scope], Ber.tagB 10 [Ber.intB 0], Ber.tagB 2 [Ber.intB limit], Ber.tagB 2 [Ber.intB 0], Ber.tagB 1 [Ms.boolB false], Ms.filB fil, Ms.textsB 48 want] (by rw [Ms.tot_cons, Ms.tot_cons, Ms.tot_cons, Ms.tot_cons, Ms.tot_cons, Ms.tot_cons, Ms.tot_cons, Ms.tot_cons, Ms.tot_nil]; omega) (by simp)) (by exact byQ)
  clear o1 o2 o3 o4 o5 o12 o13 o14 o15 o16 o17 e
  refine CallsC.of Tryz.call95 Tryz.func95 rfl Tryz.ntmps95 rfl fun w0 G0 S0 hs ho => ?_
  exact run trivial
set_option maxHeartbeats 8000000 in
theorem rfOp6 (r : Ms.Req) (ha : Ms.Okr r) (hk : r.kind = 6) : CFn Tryz.prog 95 [TAgg (Ms.cReq r)] (TBytes (Ms.opB r)) := by
  obtain ⟨num, kind, dn, pass, scope, limit, fil, want, mods, attrs, rdn, keep, above, up, avaT, avaV, which⟩ := r
  dsimp only at hk
  subst hk
  obtain ⟨o1, o2, o3, o4, o5, o6, o7, o8, o9, o10, o11, o12, o13, o14, o15, o16, o17⟩ := ha
  dsimp only at o1 o2 o3 o4 o5 o6 o7 o8 o9 o10 o11 o12 o13 o14 o15 o16 o17
  have e : Ms.opB ⟨num, 6, dn, pass, scope, limit, fil, want, mods, attrs, rdn, keep, above, up, avaT, avaV, which⟩ = Ber.tagB 102 [Ms.textB dn, Ms.modsB mods] := rfl
  rw [e]
  dsimp only [Ms.cReq]
  have cN := rfText25 dn (by omega)
  have lN := Ms.textB_le' dn
  have c1 := rfMods25 mods (by omega) o16
  have l1 := Ms.modsB_le o16
  have c2 : CFn Tryz.prog 31 [okI .u8 102, TSlX 1 (fun ts : List Ty => ts) [[TBytes (Ms.textB dn)], [TBytes (Ms.modsB mods)]]] (TBytes (Ber.tagB 102 [Ms.textB dn, Ms.modsB mods])) := CFn.sub (tagD 102 [Ms.textB dn, Ms.modsB mods] (by rw [Ms.tot_cons, Ms.tot_cons, Ms.tot_nil]; omega) (by simp)) (by exact byQ)
  clear o1 o2 o3 o4 o5 o12 o13 o14 o15 o16 o17 e
  refine CallsC.of Tryz.call95 Tryz.func95 rfl Tryz.ntmps95 rfl fun w0 G0 S0 hs ho => ?_
  exact run trivial
set_option maxHeartbeats 8000000 in
theorem rfOp8 (r : Ms.Req) (ha : Ms.Okr r) (hk : r.kind = 8) : CFn Tryz.prog 95 [TAgg (Ms.cReq r)] (TBytes (Ms.opB r)) := by
  obtain ⟨num, kind, dn, pass, scope, limit, fil, want, mods, attrs, rdn, keep, above, up, avaT, avaV, which⟩ := r
  dsimp only at hk
  subst hk
  obtain ⟨o1, o2, o3, o4, o5, o6, o7, o8, o9, o10, o11, o12, o13, o14, o15, o16, o17⟩ := ha
  dsimp only at o1 o2 o3 o4 o5 o6 o7 o8 o9 o10 o11 o12 o13 o14 o15 o16 o17
  have e : Ms.opB ⟨num, 8, dn, pass, scope, limit, fil, want, mods, attrs, rdn, keep, above, up, avaT, avaV, which⟩ = Ber.tagB 104 [Ms.textB dn, Ms.attrsB attrs] := rfl
  rw [e]
  dsimp only [Ms.cReq]
  have cN := rfText25 dn (by omega)
  have lN := Ms.textB_le' dn
  have c1 := rfAttrs25 attrs (by omega)
  have l1 := Ms.attrsB_le attrs
  have c2 : CFn Tryz.prog 31 [okI .u8 104, TSlX 1 (fun ts : List Ty => ts) [[TBytes (Ms.textB dn)], [TBytes (Ms.attrsB attrs)]]] (TBytes (Ber.tagB 104 [Ms.textB dn, Ms.attrsB attrs])) := CFn.sub (tagD 104 [Ms.textB dn, Ms.attrsB attrs] (by rw [Ms.tot_cons, Ms.tot_cons, Ms.tot_nil]; omega) (by simp)) (by exact byQ)
  clear o1 o2 o3 o4 o5 o12 o13 o14 o15 o16 o17 e
  refine CallsC.of Tryz.call95 Tryz.func95 rfl Tryz.ntmps95 rfl fun w0 G0 S0 hs ho => ?_
  exact run trivial
set_option maxHeartbeats 8000000 in
theorem rfOp10 (r : Ms.Req) (ha : Ms.Okr r) (hk : r.kind = 10) : CFn Tryz.prog 95 [TAgg (Ms.cReq r)] (TBytes (Ms.opB r)) := by
  obtain ⟨num, kind, dn, pass, scope, limit, fil, want, mods, attrs, rdn, keep, above, up, avaT, avaV, which⟩ := r
  dsimp only at hk
  subst hk
  obtain ⟨o1, o2, o3, o4, o5, o6, o7, o8, o9, o10, o11, o12, o13, o14, o15, o16, o17⟩ := ha
  dsimp only at o1 o2 o3 o4 o5 o6 o7 o8 o9 o10 o11 o12 o13 o14 o15 o16 o17
  have e : Ms.opB ⟨num, 10, dn, pass, scope, limit, fil, want, mods, attrs, rdn, keep, above, up, avaT, avaV, which⟩ = Ber.tagB 74 [dn] := rfl
  rw [e]
  dsimp only [Ms.cReq]
  have cN := rfText25 dn (by omega)
  have lN := Ms.textB_le' dn
  have c2 : CFn Tryz.prog 31 [okI .u8 74, TSlX 1 (fun ts : List Ty => ts) [[TBytes (dn)]]] (TBytes (Ber.tagB 74 [dn])) := CFn.sub (tagD 74 [dn] (by rw [Ms.tot_cons, Ms.tot_nil]; omega) (by simp)) (by exact byQ)
  clear o1 o2 o3 o4 o5 o12 o13 o14 o15 o16 o17 e
  refine CallsC.of Tryz.call95 Tryz.func95 rfl Tryz.ntmps95 rfl fun w0 G0 S0 hs ho => ?_
  exact run trivial
set_option maxHeartbeats 8000000 in
theorem rfOp12 (r : Ms.Req) (ha : Ms.Okr r) (hk : r.kind = 12) : CFn Tryz.prog 95 [TAgg (Ms.cReq r)] (TBytes (Ms.opB r)) := by
  obtain ⟨num, kind, dn, pass, scope, limit, fil, want, mods, attrs, rdn, keep, above, up, avaT, avaV, which⟩ := r
  dsimp only at hk
  subst hk
  obtain ⟨o1, o2, o3, o4, o5, o6, o7, o8, o9, o10, o11, o12, o13, o14, o15, o16, o17⟩ := ha
  dsimp only at o1 o2 o3 o4 o5 o6 o7 o8 o9 o10 o11 o12 o13 o14 o15 o16 o17
  have e : Ms.opB ⟨num, 12, dn, pass, scope, limit, fil, want, mods, attrs, rdn, keep, above, up, avaT, avaV, which⟩ = Ber.tagB 108 (Ms.renB ⟨num, 12, dn, pass, scope, limit, fil, want, mods, attrs, rdn, keep, above, up, avaT, avaV, which⟩) := rfl
  rw [e]
  dsimp only [Ms.cReq]
  have cN := rfText25 dn (by omega)
  have lN := Ms.textB_le' dn
  have c1 := rfText25 rdn (by omega)
  have l1 := Ms.textB_le' rdn
  have cb : CFn Tryz.prog 125 [Is (.bool (!keep))] (TBytes (Ms.boolB (!keep))) := refBool (!keep)
  have lb := Ms.boolB_len (!keep)
  have q1 := Ms.tag1_le 1 (Ms.boolB (!keep))
  have q2 := Ms.tag1_le 128 up
  have d1 : CFn Tryz.prog 31 [okI .u8 1, TSlX 1 (fun ts : List Ty => ts) [[TBytes (Ms.boolB (!keep))]]] (TBytes (Ber.tagB 1 [Ms.boolB (!keep)])) := CFn.sub (tagD 1 [Ms.boolB (!keep)] (by rw [Ms.tot_cons, Ms.tot_nil]; omega) (by simp)) (by exact byQ)
  cases above with
  | false =>
    have e2 : Ms.renB ⟨num, 12, dn, pass, scope, limit, fil, want, mods, attrs, rdn, keep, false, up, avaT, avaV, which⟩ = [Ms.textB dn, Ms.textB rdn, Ber.tagB 1 [Ms.boolB (!keep)]] := rfl
    rw [e2]
    have d2 : CFn Tryz.prog 31 [okI .u8 108, TSlX 1 (fun ts : List Ty => ts) [[TBytes (Ms.textB dn)], [TBytes (Ms.textB rdn)], [TBytes (Ber.tagB 1 [Ms.boolB (!keep)])]]] (TBytes (Ber.tagB 108 [Ms.textB dn, Ms.textB rdn, Ber.tagB 1 [Ms.boolB (!keep)]])) := CFn.sub (tagD 108 [Ms.textB dn, Ms.textB rdn, Ber.tagB 1 [Ms.boolB (!keep)]] (by rw [Ms.tot_cons, Ms.tot_cons, Ms.tot_cons, Ms.tot_nil]; omega) (by simp)) (by exact byQ)
    clear o1 o2 o3 o4 o5 o12 o13 o14 o15 o16 o17 e e2
    refine CallsC.of Tryz.call95 Tryz.func95 rfl Tryz.ntmps95 rfl fun w0 G0 S0 hs ho => ?_
    exact run trivial
  | true =>
    have e2 : Ms.renB ⟨num, 12, dn, pass, scope, limit, fil, want, mods, attrs, rdn, keep, true, up, avaT, avaV, which⟩ = [Ms.textB dn, Ms.textB rdn, Ber.tagB 1 [Ms.boolB (!keep)], Ber.tagB 128 [up]] := rfl
    rw [e2]
    have d3 : CFn Tryz.prog 31 [okI .u8 128, TSlX 1 (fun ts : List Ty => ts) [[TBytes (up)]]] (TBytes (Ber.tagB 128 [up])) := CFn.sub (tagD 128 [up] (by rw [Ms.tot_cons, Ms.tot_nil]; omega) (by simp)) (by exact byQ)
    have hlt : 26 < Tryz.prog.types.size := Nat.le_of_ble_eq_true (by kernel_rfl)
    have hsz : (Tryz.prog.types[26]'hlt).size = 1 := by kernel_rfl
    have d2 : ∀ v : Value, CFn Tryz.prog 31 [okI .u8 108, TAnd (Is v) (TSl (Tryz.prog.types[26]'hlt).size (fun ts : List Ty => ts) (List.map (fun ts : List Ty => ts) [[TSl 1 cB (Ms.textB dn)], [TSl 1 cB (Ms.textB rdn)], [TSl 1 cB (Ber.tagB 1 [Ms.boolB (!keep)])]] ++ [[TSl 1 cB (Ber.tagB 128 [up])]]))] (TBytes (Ber.tagB 108 [Ms.textB dn, Ms.textB rdn, Ber.tagB 1 [Ms.boolB (!keep)], Ber.tagB 128 [up]])) := by
      intro v
      rw [hsz]
      exact CFn.sub (tagD 108 [Ms.textB dn, Ms.textB rdn, Ber.tagB 1 [Ms.boolB (!keep)], Ber.tagB 128 [up]] (by rw [Ms.tot_cons, Ms.tot_cons, Ms.tot_cons, Ms.tot_cons, Ms.tot_nil]; omega) (by simp)) ⟨Sub.refl _, Sub.ownR (Sub.slT rfl), trivial⟩
    clear o1 o2 o3 o4 o5 o12 o13 o14 o15 o16 o17 e e2 q1 q2 hsz
    have mu := Mut.mk' [87]
    have pl := Plan.mk' 15 [(0,3,[]),(1,3,[]),(2,3,[]),(3,3,[]),(4,3,[]),(5,3,[]),(6,3,[]),(7,3,[]),(8,3,[]),(9,3,[]),(10,3,[]),(11,3,[]),(12,0,[]),(13,3,[])]
    refine CallsC.of Tryz.call95 Tryz.func95 rfl Tryz.ntmps95 rfl fun w0 G0 S0 hs ho => ?_
    exact run trivial
set_option maxHeartbeats 8000000 in
theorem rfOp14 (r : Ms.Req) (ha : Ms.Okr r) (hk : r.kind = 14) : CFn Tryz.prog 95 [TAgg (Ms.cReq r)] (TBytes (Ms.opB r)) := by
  obtain ⟨num, kind, dn, pass, scope, limit, fil, want, mods, attrs, rdn, keep, above, up, avaT, avaV, which⟩ := r
  dsimp only at hk
  subst hk
  obtain ⟨o1, o2, o3, o4, o5, o6, o7, o8, o9, o10, o11, o12, o13, o14, o15, o16, o17⟩ := ha
  dsimp only at o1 o2 o3 o4 o5 o6 o7 o8 o9 o10 o11 o12 o13 o14 o15 o16 o17
  have e : Ms.opB ⟨num, 14, dn, pass, scope, limit, fil, want, mods, attrs, rdn, keep, above, up, avaT, avaV, which⟩ = Ber.tagB 110 [Ms.textB dn, Ber.tagB 48 [Ms.textB avaT, Ms.textB avaV]] := rfl
  rw [e]
  dsimp only [Ms.cReq]
  have cN := rfText25 dn (by omega)
  have lN := Ms.textB_le' dn
  have c1 := rfText25 avaT (by omega)
  have c2 := rfText25 avaV (by omega)
  have l1 := Ms.textB_le' avaT
  have l2 := Ms.textB_le' avaV
  have l3 := Ms.tagB_le 48 [Ms.textB avaT, Ms.textB avaV]
  rw [Ms.tot_cons, Ms.tot_cons, Ms.tot_nil] at l3
  have d1 : CFn Tryz.prog 31 [okI .u8 48, TSlX 1 (fun ts : List Ty => ts) [[TBytes (Ms.textB avaT)], [TBytes (Ms.textB avaV)]]] (TBytes (Ber.tagB 48 [Ms.textB avaT, Ms.textB avaV])) := CFn.sub (tagD 48 [Ms.textB avaT, Ms.textB avaV] (by rw [Ms.tot_cons, Ms.tot_cons, Ms.tot_nil]; omega) (by simp)) (by exact byQ)
  have d2 : CFn Tryz.prog 31 [okI .u8 110, TSlX 1 (fun ts : List Ty => ts) [[TBytes (Ms.textB dn)], [TBytes (Ber.tagB 48 [Ms.textB avaT, Ms.textB avaV])]]] (TBytes (Ber.tagB 110 [Ms.textB dn, Ber.tagB 48 [Ms.textB avaT, Ms.textB avaV]])) := CFn.sub (tagD 110 [Ms.textB dn, Ber.tagB 48 [Ms.textB avaT, Ms.textB avaV]] (by rw [Ms.tot_cons, Ms.tot_cons, Ms.tot_nil]; omega) (by simp)) (by exact byQ)
  clear o1 o2 o3 o4 o5 o12 o13 o14 o15 o16 o17 e
  refine CallsC.of Tryz.call95 Tryz.func95 rfl Tryz.ntmps95 rfl fun w0 G0 S0 hs ho => ?_
  exact run trivial
set_option maxHeartbeats 8000000 in
theorem rfOp16 (r : Ms.Req) (ha : Ms.Okr r) (hk : r.kind = 16) : CFn Tryz.prog 95 [TAgg (Ms.cReq r)] (TBytes (Ms.opB r)) := by
  obtain ⟨num, kind, dn, pass, scope, limit, fil, want, mods, attrs, rdn, keep, above, up, avaT, avaV, which⟩ := r
  dsimp only at hk
  subst hk
  obtain ⟨o1, o2, o3, o4, o5, o6, o7, o8, o9, o10, o11, o12, o13, o14, o15, o16, o17⟩ := ha
  dsimp only at o1 o2 o3 o4 o5 o6 o7 o8 o9 o10 o11 o12 o13 o14 o15 o16 o17
  have e : Ms.opB ⟨num, 16, dn, pass, scope, limit, fil, want, mods, attrs, rdn, keep, above, up, avaT, avaV, which⟩ = Ber.tagB 80 [Ber.intB which] := rfl
  rw [e]
  dsimp only [Ms.cReq]
  have cN := rfText25 dn (by omega)
  have lN := Ms.textB_le' dn
  have c1 : CFn Tryz.prog 34 [okI .u8 80, okI .i64 which] (TBytes (Ber.tagB 80 [Ber.intB which])) := rfNum25 80 which o5
  clear o1 o2 o3 o4 o5 o12 o13 o14 o15 o16 o17 e
  refine CallsC.of Tryz.call95 Tryz.func95 rfl Tryz.ntmps95 rfl fun w0 G0 S0 hs ho => ?_
  exact run trivial
set_option maxHeartbeats 8000000 in
theorem rfOp2 (r : Ms.Req) (ha : Ms.Okr r) (hk : r.kind = 2) : CFn Tryz.prog 95 [TAgg (Ms.cReq r)] (TBytes (Ms.opB r)) := by
  obtain ⟨num, kind, dn, pass, scope, limit, fil, want, mods, attrs, rdn, keep, above, up, avaT, avaV, which⟩ := r
  dsimp only at hk
  subst hk
  obtain ⟨o1, o2, o3, o4, o5, o6, o7, o8, o9, o10, o11, o12, o13, o14, o15, o16, o17⟩ := ha
  dsimp only at o1 o2 o3 o4 o5 o6 o7 o8 o9 o10 o11 o12 o13 o14 o15 o16 o17
  have e : Ms.opB ⟨num, 2, dn, pass, scope, limit, fil, want, mods, attrs, rdn, keep, above, up, avaT, avaV, which⟩ = Ber.tagB 66 [] := rfl
  rw [e]
  dsimp only [Ms.cReq]
  have cN := rfText25 dn (by omega)
  have lN := Ms.textB_le' dn
  have c1 : CFn Tryz.prog 31 [okI .u8 66, Is (.slice none 0 0)] (TBytes (Ber.tagB 66 [])) := CFn.sub (tagD 66 [] (by decide) (by decide)) ⟨Sub.refl _, Sub.nil _ _, trivial⟩
  clear o1 o2 o3 o4 o5 o12 o13 o14 o15 o16 o17 e
  refine CallsC.of Tryz.call95 Tryz.func95 rfl Tryz.ntmps95 rfl fun w0 G0 S0 hs ho => ?_
  exact run trivial
theorem rfOp25 (r : Ms.Req) (ha : Ms.Okr r) (hk : Ms.isKindB r.kind = true) (hp : r.kind = 3 → Ms.Prf r.fil) : CFn Tryz.prog 95 [TAgg (Ms.cReq r)] (TBytes (Ms.opB r)) := by
  rcases Ms.isKindB_iff.1 hk with h | h | h | h | h | h | h | h | h
  · exact rfOp0 r ha h
  · exact rfOp2 r ha h
  · exact rfOp3 r ha h (hp h)
  · exact rfOp6 r ha h
  · exact rfOp8 r ha h
  · exact rfOp10 r ha h
  · exact rfOp12 r ha h
  · exact rfOp14 r ha h
  · exact rfOp16 r ha h
attribute [local irreducible] Ms.opB Ms.soundB
theorem rfBytes25 (r : Ms.Req) (ha : Ms.Okr r) (hk : Ms.isKindB r.kind = true) (hp : r.kind = 3 → Ms.Prf r.fil) : CFn Tryz.prog 62 [TAgg (Ms.cReq r)] (TBytes (Ms.reqB r)) := by
  have c2 := rfOp25 r ha hk hp
  have l1 := Ms.intB_le' ha.num
  have l2 := Ms.tag1_le 2 (Ber.intB r.num)
  have l3 := Ms.opB_le ha
  have c3 : CFn Tryz.prog 34 [okI .u8 2, okI .i64 r.num] (TBytes (Ber.tagB 2 [Ber.intB r.num])) := rfNum25 2 r.num ha.num
  have c5 : CFn Tryz.prog 31 [okI .u8 48, TSlX 1 (fun ts : List Ty => ts) [[TBytes (Ber.tagB 2 [Ber.intB r.num])], [TBytes (Ms.opB r)]]] (TBytes (Ms.reqB r)) := tagD2 48 _ _ (by omega)
  clear ha l1 l2 l3
  refine CallsC.of Tryz.call62 Tryz.func62 rfl Tryz.ntmps62 rfl fun w0 G0 S0 hs ho => ?_
  exact run trivial
end Go.Proofs.YtgaahjmgneallaaGreat
set_option linter.unusedVariables false
namespace Go.Fi
open Go.Vk
open Go.Dn (typB typC halfV)
/-- Whether a piece may not stand where it stands. -/
def badAt (l : List (List UInt8)) (i : Nat) : Bool := decide ((256 : Int) < ((l.getD i default).length : Int)) || (decide (l.getD i default = []) && decide (0 < i) && decide (i + 1 < l.length))
theorem mem_mid {l : List (List UInt8)} {s : List UInt8} : s ∈ (l.drop 1).dropLast ↔ ∃ i, 0 < i ∧ i + 1 < l.length ∧ l.getD i default = s := by
  rw [List.mem_iff_getElem]
  simp only [List.length_dropLast, List.length_drop]
  constructor
  · rintro ⟨i, hi, h⟩
    refine ⟨i + 1, by omega, by omega, ?_⟩
    rw [List.getElem_dropLast, List.getElem_drop] at h
    rw [List.getD_eq_getElem?_getD, List.getElem?_eq_getElem (by omega), Option.getD_some, ← h]
    congr 1; omega
  · rintro ⟨i, h0, h1, h⟩
    refine ⟨i - 1, by omega, ?_⟩
    rw [List.getElem_dropLast, List.getElem_drop]
    rw [List.getD_eq_getElem?_getD, List.getElem?_eq_getElem (by omega), Option.getD_some] at h
    rw [← h]
    congr 1; omega
theorem mem_at {l : List (List UInt8)} {s : List UInt8} : s ∈ l ↔ ∃ i, i < l.length ∧ l.getD i default = s := by
  rw [List.mem_iff_getElem]
  constructor
  · rintro ⟨i, hi, h⟩
    exact ⟨i, hi, by rw [List.getD_eq_getElem?_getD, List.getElem?_eq_getElem hi, Option.getD_some, h]⟩
  · rintro ⟨i, hi, h⟩
    rw [List.getD_eq_getElem?_getD, List.getElem?_eq_getElem hi, Option.getD_some] at h
    exact ⟨i, hi, h⟩
theorem bad_snoc {l : List (List UInt8)} {i : Nat} (h : ∀ j, j < i → badAt l j = false) (hb : badAt l i = false) : ∀ j, j < i + 1 → badAt l j = false := fun j hj => by
  rcases Nat.lt_succ_iff_lt_or_eq.1 hj with h1 | h1
  · exact h j h1
  · rw [h1]; exact hb
theorem subsB_short {l : List (List UInt8)} (h : l.length < 2 ∨ 16 < l.length) : subsB l = false := by
  unfold subsB
  rcases h with h | h
  · rw [decide_eq_false (by omega : ¬ 2 ≤ l.length)]; simp
  · rw [decide_eq_false (by omega : ¬ l.length ≤ 16)]; simp
theorem subsB_bad {l : List (List UInt8)} {i : Nat} (hi : i < l.length) (h : badAt l i = true) : subsB l = false := by
  unfold subsB
  unfold badAt at h
  simp only [Bool.or_eq_true, Bool.and_eq_true, decide_eq_true_eq] at h
  rcases h with h | ⟨⟨h1, h2⟩, h3⟩
  · have : l.all okS = false := by
      rw [Bool.eq_false_iff]
      intro ha
      rw [List.all_eq_true] at ha
      have := ha _ (mem_at.2 ⟨i, hi, rfl⟩)
      unfold okS at this
      simp only [decide_eq_true_eq] at this
      omega
    rw [this]; simp
  · have : (l.drop 1).dropLast.all (fun s => !decide (s = [])) = false := by
      rw [Bool.eq_false_iff]
      intro ha
      rw [List.all_eq_true] at ha
      have := ha _ (mem_mid.2 ⟨i, h2, h3, rfl⟩)
      rw [h1] at this
      simp at this
    rw [this]; simp
theorem subsB_end {l : List (List UInt8)} (h1 : 2 ≤ l.length) (h2 : l.length ≤ 16) (h : ∀ i, i < l.length → badAt l i = false) : subsB l = l.any (fun s => !decide (s = [])) := by
  have ha : l.all okS = true := by
    rw [List.all_eq_true]
    intro s hs
    obtain ⟨i, hi, rfl⟩ := mem_at.1 hs
    have := h i hi
    unfold badAt at this
    simp only [Bool.or_eq_false_iff, decide_eq_false_iff_not] at this
    unfold okS
    simp only [decide_eq_true_eq]
    omega
  have hb : (l.drop 1).dropLast.all (fun s => !decide (s = [])) = true := by
    rw [List.all_eq_true]
    intro s hs
    obtain ⟨i, h3, h4, rfl⟩ := mem_mid.1 hs
    have := h i (by omega)
    unfold badAt at this
    rw [decide_eq_true h3, decide_eq_true h4] at this
    simp only [Bool.and_true, Bool.or_eq_false_iff] at this
    rw [this.2]; rfl
  unfold subsB
  rw [ha, hb, decide_eq_true h1, decide_eq_true h2]; rfl
theorem any_snoc {l : List (List UInt8)} {i : Nat} (h : i < l.length) : (l.take (i + 1)).any (fun s => !decide (s = [])) = ((l.take i).any (fun s => !decide (s = [])) || !decide (l.getD i default = [])) := by
  rw [List.take_add_one, List.any_append, List.getElem?_eq_getElem h, List.getD_eq_getElem?_getD, List.getElem?_eq_getElem h]
  simp
theorem one_big {k : Int} {t v : List UInt8} {s : List (List UInt8)} {ks : List Fil} {d : Nat} (h : ¬ d ≤ 16) : oneF (.mk k t v s ks) d = false := by
  unfold oneF; rw [decide_eq_false h]; rfl
theorem one_box {k : Int} {t v : List UInt8} {s : List (List UInt8)} {ks : List Fil} {d : Nat} (h : d ≤ 16) (hk : k = 0 ∨ k = 1 ∨ k = 2) : oneF (.mk k t v s ks) d = (decide (t = []) && decide (v = []) && decide (s = []) && decide (ks ≠ []) && (decide (k ≠ 2) || decide (ks.length ≤ 1)) && oneL ks (d + 1)) := by
  conv => lhs; unfold oneF
  rw [decide_eq_true h, if_pos hk]; rfl
theorem one_leaf {k : Int} {t v : List UInt8} {s : List (List UInt8)} {ks : List Fil} {d : Nat} (h : d ≤ 16) (hk : k = 3 ∨ k = 5 ∨ k = 6) : oneF (.mk k t v s ks) d = (decide (ks = []) && decide (s = []) && typB t && okS v) := by
  conv => lhs; unfold oneF
  rw [decide_eq_true h, if_neg (by omega), if_pos hk]; rfl
theorem one_4 {t v : List UInt8} {s : List (List UInt8)} {ks : List Fil} {d : Nat} (h : d ≤ 16) : oneF (.mk 4 t v s ks) d = (decide (ks = []) && decide (v = []) && typB t && subsB s) := by
  conv => lhs; unfold oneF
  rw [decide_eq_true h]; rfl
theorem one_7 {t v : List UInt8} {s : List (List UInt8)} {ks : List Fil} {d : Nat} (h : d ≤ 16) : oneF (.mk 7 t v s ks) d = (decide (ks = []) && decide (v = []) && decide (s = []) && typB t) := by
  conv => lhs; unfold oneF
  rw [decide_eq_true h]; rfl
theorem one_x {k : Int} {t v : List UInt8} {s : List (List UInt8)} {ks : List Fil} {d : Nat} (h : d ≤ 16) (hk : ¬ (k = 0 ∨ k = 1 ∨ k = 2) ∧ ¬ (k = 3 ∨ k = 5 ∨ k = 6) ∧ k ≠ 4 ∧ k ≠ 7) : oneF (.mk k t v s ks) d = false := by
  unfold oneF
  rw [if_neg hk.1, if_neg hk.2.1, if_neg hk.2.2.1, if_neg hk.2.2.2]; simp
theorem drop_fil {l : List Fil} {i : Nat} (h : i < l.length) : l.drop i = l.getD i default :: l.drop (i + 1) := by
  rw [List.drop_eq_getElem_cons h, List.getD_eq_getElem?_getD, List.getElem?_eq_getElem h, Option.getD_some]
theorem oneL_cons (f : Fil) (r : List Fil) (d : Nat) : oneL (f :: r) d = (oneF f d && oneL r d) := by
  conv => lhs; unfold oneL
theorem nilF {l : List Fil} : l = [] ↔ (l.length : Int) = 0 := by
  rw [← List.length_eq_zero_iff]; omega
theorem nilS {l : List (List UInt8)} : l = [] ↔ (l.length : Int) = 0 := by
  rw [← List.length_eq_zero_iff]; omega
mutual
theorem nodes_wt : ∀ f : Fil, nodes f ≤ wt f
  | .mk k t v s ks => by
    have := nodesL_wt ks
    rw [nodes, wt]; omega
theorem nodesL_wt : ∀ l : List Fil, nodesL l ≤ wtL l
  | [] => by rw [nodesL, wtL]; omega
  | f :: r => by
    have h1 := nodes_wt f
    have h2 := nodesL_wt r
    rw [nodesL, wtL]; omega
end
end Go.Fi
set_option maxRecDepth 8000
set_option linter.unusedVariables false
namespace Go.Proofs.YtgaahjmgneallaaGreat
open Go.Vk
attribute [local irreducible] HT HX RegS RegA RegM OpP OpC AltT
attribute [local irreducible] Dn.typB Fi.nodes Fi.nodesL Fi.oneF Fi.oneL Fi.subsB
set_option maxHeartbeats 2000000 in
theorem rfSubs (l : List (List UInt8)) (hl : l.length ≤ 1000000) : CFn Tryz.prog 124 [TSl 1 Fi.cS l] (Is (.bool (Fi.subsB l))) := by
  by_cases hs : l.length < 2 ∨ 16 < l.length
  · rw [Fi.subsB_short hs]
    refine CallsC.of Tryz.call124 Tryz.func124 rfl Tryz.ntmps124 rfl fun w0 G0 S0 hs ho => ?_
    exact run trivial
  refine CallsC.of Tryz.call124 Tryz.func124 rfl Tryz.ntmps124 rfl fun w0 G0 S0 hs ho => ?_
  refine run ?_
  intro _
  refine HT.loopX (σ := Nat) [0] (fun i => [(3, Is (.bool ((l.take i).any (fun s => !decide (s = []))))), (4, okI .i64 (i : Int))]) (fun _ => []) (fun i => i ≤ l.length ∧ ∀ j, j < i → Fi.badAt l j = false) (fun i => l.length - i) 0 ⟨Nat.zero_le _, fun j h => absurd h (Nat.not_lt_zero _)⟩ (run trivial) (by first | exact run trivial | (refine run ?_; simp)) ?_
  rintro i ⟨hi, he⟩
  by_cases hlt : i < l.length
  · have hu : Fi.badAt l i = (decide ((256 : Int) < ((l.getD i default).length : Int)) || (decide (l.getD i default = []) && decide (0 < i) && decide (i + 1 < l.length))) := rfl
    have hsn := Fi.any_snoc hlt
    cases hb : Fi.badAt l i with
    | true =>
      rw [Fi.subsB_bad hlt hb]
      rw [hb] at hu
      simp only [Bool.true_eq, Bool.or_eq_true, Bool.and_eq_true, decide_eq_true_eq] at hu
      refine run ?_
      intros
      exfalso; grind
    | false =>
      rw [hb] at hu
      simp only [Bool.false_eq, Bool.or_eq_false_iff, Bool.and_eq_false_iff, decide_eq_false_iff_not] at hu
      refine run ?_
      refine ⟨?_, ?_⟩ <;> intros
      · exfalso; grind
      · exact HX.roundX (i + 1) ⟨⟨by omega, Fi.bad_snoc he hb⟩, by omega⟩ rfl (run trivial) (by refine run ?_; rw [hsn]; simp)
  · have ht : l.take i = l := List.take_of_length_le (by omega)
    rw [Fi.subsB_end (by omega) (by omega) (fun j hj => he j (by omega)), ht]
    have hno : ¬ (i : Int) < (l.length : Int) := by omega
    exact run trivial
/-- What a filter's contract is, where it stands so deep. -/
def OneC (f : Fi.Fil) : Prop := ∀ d : Nat, d ≤ 17 → CFn Tryz.prog 93 [TAgg (Fi.cF f), okI .i64 (d : Int)] (Is (.bool (Fi.oneF f d)))
set_option maxHeartbeats 4000000 in
theorem rfOne_b (k : Int) (t v : List UInt8) (s : List (List UInt8)) (ks : List Fi.Fil) (hk : k = 0 ∨ k = 1 ∨ k = 2) (hk1 : ks.length ≤ 1000000) (IH : ∀ f ∈ ks, OneC f) : OneC (.mk k t v s ks) := by
  intro d hd
  by_cases hdd : d ≤ 16
  · rw [Fi.one_box hdd hk, Fi.cF_open]
    dsimp only [Fi.Fil.kind, Fi.Fil.typ, Fi.Fil.val, Fi.Fil.subs, Fi.Fil.kids]
    cases hB : (decide (t = []) && decide (v = []) && decide (s = []) && decide (ks ≠ []) && (decide (k ≠ 2) || decide (ks.length ≤ 1))) with
    | true =>
      rw [Bool.true_and]
      simp only [Bool.and_eq_true, Bool.or_eq_true, decide_eq_true_eq] at hB
      obtain ⟨⟨⟨⟨rfl, rfl⟩, rfl⟩, hne⟩, hB⟩ := hB
      rw [ne_eq, Fi.nilF] at hne
      rcases hk with rfl | rfl | rfl
      all_goals
        refine CallsC.of Tryz.call93 Tryz.func93 rfl Tryz.ntmps93 rfl fun w0 G0 S0 hs ho => ?_
        refine run ?_
        (refine ⟨?_, ?_⟩ <;> intros)
        · exfalso; grind
        refine HT.loopX (σ := Nat) [1, 2, 9] (fun i => [(5, okI .i64 (i : Int))]) (fun _ => []) (fun i => i ≤ ks.length ∧ Fi.oneL (ks.drop i) (d + 1) = Fi.oneL ks (d + 1)) (fun i => ks.length - i) 0 ⟨Nat.zero_le _, rfl⟩ (run trivial) (run trivial) ?_
        rintro i ⟨hi, he⟩
        by_cases hlt : i < ks.length
        · have c1 : CFn Tryz.prog 93 [TAgg (Fi.cF (ks.getD i default)), okI .i64 ((d : Int) + 1)] (Is (.bool (Fi.oneF (ks.getD i default) (d + 1)))) := IH _ (En.getD_mem hlt) (d + 1) (by omega)
          rw [Fi.drop_fil hlt, Fi.oneL_cons] at he
          clear IH
          cases h1 : Fi.oneF (ks.getD i default) (d + 1) with
          | true =>
            rw [h1] at c1
            rw [h1, Bool.true_and] at he
            refine run ?_
            intros
            exact HX.roundX (i + 1) ⟨⟨by omega, he⟩, by omega⟩ rfl (run trivial) (run trivial)
          | false =>
            rw [h1] at c1
            rw [h1, Bool.false_and] at he
            rw [← he]
            exact run trivial
        · rw [← he, List.drop_of_length_le (by omega)]
          clear IH
          refine run ?_
          intros
          unfold Fi.oneL; rfl
    | false =>
      rw [Bool.false_and]
      clear IH
      rcases hk with rfl | rfl | rfl
      all_goals
        refine CallsC.of Tryz.call93 Tryz.func93 rfl Tryz.ntmps93 rfl fun w0 G0 S0 hs ho => ?_
        refine run ?_
        intros
        exfalso
        have e1 := Fi.nilF (l := ks)
        have e2 := Fi.nilS (l := s)
        grind
  · rw [Fi.one_big hdd]
    clear IH
    refine CallsC.of Tryz.call93 Tryz.func93 rfl Tryz.ntmps93 rfl fun w0 G0 S0 hs ho => ?_
    exact run trivial
set_option maxHeartbeats 4000000 in
theorem rfOne_3 (k : Int) (t v : List UInt8) (s : List (List UInt8)) (ks : List Fi.Fil) (hk : k = 3 ∨ k = 5 ∨ k = 6) (ht : t.length ≤ 1000000) : OneC (.mk k t v s ks) := by
  intro d hd
  by_cases hdd : d ≤ 16
  · rw [Fi.one_leaf hdd hk, Fi.cF_open]
    dsimp only [Fi.Fil.kind, Fi.Fil.typ, Fi.Fil.val, Fi.Fil.subs, Fi.Fil.kids]
    have c1 := rfType t (by omega)
    refine CallsC.of Tryz.call93 Tryz.func93 rfl Tryz.ntmps93 rfl fun w0 G0 S0 hs ho => ?_
    refine run ?_
    and_intros <;> intros <;> simp only [Fi.nilF, Fi.nilS, Fi.okS]
  · rw [Fi.one_big hdd]
    refine CallsC.of Tryz.call93 Tryz.func93 rfl Tryz.ntmps93 rfl fun w0 G0 S0 hs ho => ?_
    exact run trivial
set_option maxHeartbeats 4000000 in
theorem rfOne_4 (t v : List UInt8) (s : List (List UInt8)) (ks : List Fi.Fil) (ht : t.length ≤ 1000000) (hs1 : s.length ≤ 1000000) : OneC (.mk 4 t v s ks) := by
  intro d hd
  by_cases hdd : d ≤ 16
  · rw [Fi.one_4 hdd, Fi.cF_open]
    dsimp only [Fi.Fil.kind, Fi.Fil.typ, Fi.Fil.val, Fi.Fil.subs, Fi.Fil.kids]
    have c1 := rfType t (by omega)
    have c2 := rfSubs s hs1
    refine CallsC.of Tryz.call93 Tryz.func93 rfl Tryz.ntmps93 rfl fun w0 G0 S0 hs ho => ?_
    refine run ?_
    and_intros <;> intros <;> simp only [Fi.nilF, Fi.nilS, Fi.okS]
  · rw [Fi.one_big hdd]
    refine CallsC.of Tryz.call93 Tryz.func93 rfl Tryz.ntmps93 rfl fun w0 G0 S0 hs ho => ?_
    exact run trivial
set_option maxHeartbeats 4000000 in
theorem rfOne_7 (t v : List UInt8) (s : List (List UInt8)) (ks : List Fi.Fil) (ht : t.length ≤ 1000000) : OneC (.mk 7 t v s ks) := by
  intro d hd
  by_cases hdd : d ≤ 16
  · rw [Fi.one_7 hdd, Fi.cF_open]
    dsimp only [Fi.Fil.kind, Fi.Fil.typ, Fi.Fil.val, Fi.Fil.subs, Fi.Fil.kids]
    have c1 := rfType t (by omega)
    refine CallsC.of Tryz.call93 Tryz.func93 rfl Tryz.ntmps93 rfl fun w0 G0 S0 hs ho => ?_
    refine run ?_
    and_intros <;> intros <;> simp only [Fi.nilF, Fi.nilS, Fi.okS]
  · rw [Fi.one_big hdd]
    refine CallsC.of Tryz.call93 Tryz.func93 rfl Tryz.ntmps93 rfl fun w0 G0 S0 hs ho => ?_
    exact run trivial
set_option maxHeartbeats 4000000 in
theorem rfOne_x (k : Int) (t v : List UInt8) (s : List (List UInt8)) (ks : List Fi.Fil) (hk : ¬ (k = 0 ∨ k = 1 ∨ k = 2) ∧ ¬ (k = 3 ∨ k = 5 ∨ k = 6) ∧ k ≠ 4 ∧ k ≠ 7) : OneC (.mk k t v s ks) := by
  intro d hd
  by_cases hdd : d ≤ 16
  · rw [Fi.one_x hdd hk, Fi.cF_open]
    dsimp only [Fi.Fil.kind, Fi.Fil.typ, Fi.Fil.val, Fi.Fil.subs, Fi.Fil.kids]
    refine CallsC.of Tryz.call93 Tryz.func93 rfl Tryz.ntmps93 rfl fun w0 G0 S0 hs ho => ?_
    exact run trivial
  · rw [Fi.one_big hdd]
    refine CallsC.of Tryz.call93 Tryz.func93 rfl Tryz.ntmps93 rfl fun w0 G0 S0 hs ho => ?_
    exact run trivial
theorem rfOne : ∀ (N : Nat) (f : Fi.Fil), Fi.nodes f ≤ N → Fi.wt f ≤ 1000000 → OneC f
  | 0, .mk k t v s ks, h, _ => by unfold Fi.nodes at h; omega
  | N + 1, .mk k t v s ks, h, hw => by
    have e : Fi.nodes (.mk k t v s ks) = 1 + Fi.nodesL ks := by unfold Fi.nodes; rfl
    rw [e] at h
    rw [Fi.wt] at hw
    have w1 := Fi.wtl ks
    have w2 := Fi.sbl s
    by_cases k1 : k = 0 ∨ k = 1 ∨ k = 2
    · exact rfOne_b k t v s ks k1 (by omega) (fun a ha => rfOne N a (by have := Fi.kid_lt ha; omega) (by have := Fi.wtk ha; omega))
    by_cases k2 : k = 3 ∨ k = 5 ∨ k = 6
    · exact rfOne_3 k t v s ks k2 (by omega)
    by_cases k3 : k = 4
    · subst k3; exact rfOne_4 t v s ks (by omega) (by omega)
    by_cases k4 : k = 7
    · subst k4; exact rfOne_7 t v s ks (by omega)
    · exact rfOne_x k t v s ks ⟨k1, k2, k3, k4⟩
theorem rfIs (f : Fi.Fil) (hw : Fi.wt f ≤ 1000000) : CFn Tryz.prog 60 [TAgg (Fi.cF f)] (Is (.bool (Fi.isF f))) := by
  have c1 := rfOne (Fi.nodes f) f (Nat.le_refl _) hw 1 (by omega)
  have hn := Fi.nodes_wt f
  have c2 := rfNodes (Fi.nodes f) f (Nat.le_refl _) (by omega)
  unfold Fi.isF
  refine CallsC.of Tryz.call60 Tryz.func60 rfl Tryz.ntmps60 rfl fun w0 G0 S0 hs ho => ?_
  have e : decide ((Fi.nodes f : Int) ≤ 64) = decide (Fi.nodes f ≤ 64) := decide_eq_decide.2 (by omega)
  refine run ?_
  rw [e]
end Go.Proofs.YtgaahjmgneallaaGreat
set_option linter.unusedVariables false
set_option maxRecDepth 8000
set_option linter.unusedVariables false
namespace Go.Proofs.YtgaahjmgneallaaGreat
open Go.Vk
attribute [local irreducible] HT HX RegS RegA RegM OpP OpC AltT
attribute [local irreducible] Fi.nodes Fi.nodesL Fi.sameF
theorem rfTexts (l m : List (List UInt8)) (hl : l.length ≤ 1000000) : CFn Tryz.prog 92 [TSl 1 Fi.cS l, TSl 1 Fi.cS m] (Is (.bool (decide (l = m)))) := by
  refine CallsC.of Tryz.call92 Tryz.func92 rfl Tryz.ntmps92 rfl fun w0 G0 S0 hs ho => ?_
  refine run ?_
  refine ⟨?_, ?_⟩
  · intro h
    exact (decide_eq_false (fun e => h (by rw [e]))).symm
  intro hc
  refine HT.loopX (σ := Nat) [0, 1] (fun i => [(5, okI .i64 (i : Int))]) (fun _ => []) (fun i => i ≤ l.length ∧ l.take i = m.take i) (fun i => l.length - i) 0 ⟨Nat.zero_le _, rfl⟩ (run trivial) (run trivial) ?_
  rintro i ⟨hi, he⟩
  have hc' : l.length = m.length := by
    have : (l.length : Int) = (m.length : Int) := Decidable.not_not.1 hc
    omega
  refine run ?_
  and_intros
  all_goals intros
  · rename_i h1 h2
    exact (decide_eq_false (fun e => h2 (by rw [e]))).symm
  · rename_i h1 h2
    exact HX.roundX (i + 1) ⟨⟨by omega, En.take_ext (by omega) hc' he (Decidable.not_not.1 h2)⟩, by omega⟩ rfl (run trivial) (run trivial)
  · rename_i h1
    exact (decide_eq_true (En.take_all h1 hc' he)).symm
set_option maxHeartbeats 2000000 in
theorem rfSameS (k k' : Int) (t t' v v' : List UInt8) (s s' : List (List UInt8)) (ks ks' : List Fi.Fil) (hs1 : s.length ≤ 1000000) (hk1 : ks.length ≤ 1000000) (IH : ∀ a ∈ ks, ∀ b, CFn Tryz.prog 54 [TAgg (Fi.cF a), TAgg (Fi.cF b)] (Is (.bool (decide (a = b))))) : CFn Tryz.prog 54 [TAgg (Fi.cF (.mk k t v s ks)), TAgg (Fi.cF (.mk k' t' v' s' ks'))] (Is (.bool (decide (Fi.Fil.mk k t v s ks = Fi.Fil.mk k' t' v' s' ks')))) := by
  have c1 := rfTexts s s' hs1
  rw [Fi.fil_eq, Fi.cF_open (.mk k t v s ks), Fi.cF_open (.mk k' t' v' s' ks')]
  dsimp only [Fi.Fil.kind, Fi.Fil.typ, Fi.Fil.val, Fi.Fil.subs, Fi.Fil.kids]
  cases hB : (decide (k = k') && decide (t = t') && decide (v = v') && decide (s = s') && decide (ks.length = ks'.length)) with
  | false =>
    have hf : (decide (k = k') && decide (t = t') && decide (v = v') && decide (s = s') && decide (ks = ks')) = false := by
      rw [Bool.eq_false_iff] at hB ⊢
      intro h
      apply hB
      simp only [Bool.and_eq_true, decide_eq_true_eq] at h ⊢
      exact ⟨h.1, by rw [h.2]⟩
    rw [hf]
    clear IH hf
    refine CallsC.of Tryz.call54 Tryz.func54 rfl Tryz.ntmps54 rfl fun w0 G0 S0 hs ho => ?_
    refine run ?_
    intros
    exfalso
    grind
  | true =>
    simp only [Bool.and_eq_true, decide_eq_true_eq] at hB
    obtain ⟨⟨⟨⟨rfl, rfl⟩, rfl⟩, rfl⟩, hc'⟩ := hB
    rw [decide_eq_true rfl, decide_eq_true rfl, decide_eq_true rfl, decide_eq_true rfl]
    rw [Bool.and_self, Bool.and_self, Bool.and_self, Bool.true_and]
    rw [decide_eq_true rfl] at c1
    refine CallsC.of Tryz.call54 Tryz.func54 rfl Tryz.ntmps54 rfl fun w0 G0 S0 hs ho => ?_
    refine run ?_
    refine ⟨fun h => ?_, fun _ => ?_⟩
    · exfalso; grind
    refine HT.loopX (σ := Nat) [2, 3] (fun i => [(5, okI .i64 (i : Int))]) (fun _ => []) (fun i => i ≤ ks.length ∧ ks.take i = ks'.take i) (fun i => ks.length - i) 0 ⟨Nat.zero_le _, rfl⟩ (run trivial) (run trivial) ?_
    rintro i ⟨hi, he⟩
    have cf' := fun (hlt : i < ks.length) => IH (ks.getD i default) (En.getD_mem hlt) (ks'.getD i default)
    clear IH
    refine run ?_
    refine ⟨fun _ h2 => ?_, fun _ h2 => ?_, fun h1 => ?_⟩
    · exact (decide_eq_false (fun e => h2 (by rw [e]))).symm
    · exact HX.roundX (i + 1) ⟨⟨by omega, En.take_ext (by omega) hc' he h2⟩, by omega⟩ rfl (run trivial) (run trivial)
    · exact (decide_eq_true (En.take_all h1 hc' he)).symm
theorem rfSame : ∀ (N : Nat) (f : Fi.Fil), Fi.nodes f ≤ N → Fi.wt f ≤ 1000000 → ∀ b : Fi.Fil, CFn Tryz.prog 54 [TAgg (Fi.cF f), TAgg (Fi.cF b)] (Is (.bool (decide (f = b))))
  | 0, .mk k t v s ks, h, _, _ => by unfold Fi.nodes at h; omega
  | N + 1, .mk k t v s ks, h, hw, .mk k' t' v' s' ks' => by
    have e : Fi.nodes (.mk k t v s ks) = 1 + Fi.nodesL ks := by unfold Fi.nodes; rfl
    rw [e] at h
    rw [Fi.wt] at hw
    have w1 := Fi.wtl ks
    have w2 := Fi.sbl s
    exact rfSameS k k' t t' v v' s s' ks ks' (by omega) (by omega) (fun a ha b => rfSame N a (by have := Fi.kid_lt ha; omega) (by have := Fi.wtk ha; omega) b)
end Go.Proofs.YtgaahjmgneallaaGreat
set_option linter.unusedVariables false
namespace Go.Ms
open Go.Vk
/-- A request of its kind, with what that names. -/
def blankR (r : Req) : Req :=
  let k := r.kind
  ⟨r.num, r.kind, if k = 0 ∨ k = 3 ∨ k = 6 ∨ k = 8 ∨ k = 10 ∨ k = 12 ∨ k = 14 then r.dn else [], if k = 0 then r.pass else [], if k = 3 then r.scope else 0, if k = 3 then r.limit else 0, if k = 3 then r.fil else Fi.zeroF, if k = 3 then r.want else [], if k = 6 then r.mods else [], if k = 8 then r.attrs else [], if k = 12 then r.rdn else [], if k = 12 then r.keep else false, if k = 12 then r.above else false, if k = 12 then r.up else [], if k = 14 then r.avaT else [], if k = 14 then r.avaV else [], if k = 16 then r.which else 0⟩
theorem blank_iff {r : Req} (h : isKindB r.kind = true) : r = blankR r ↔ unnR r = zR := by
  obtain ⟨num, kind, dn, pass, scope, limit, fil, want, mods, attrs, rdn, keep, above, up, avaT, avaV, which⟩ := r
  unfold blankR unnR zR
  dsimp only
  rcases isKindB_iff.1 h with h | h | h | h | h | h | h | h | h <;> dsimp only at h <;> subst h <;> simp only [Req.mk.injEq, reduceIte, Int.reduceEq, or_self, or_false, false_or, or_true, true_or, true_and, and_true]
def listsB (r : Req) : Bool := fewB r.want && fewB r.mods && fewB r.attrs && (r.mods.all modOk && r.attrs.all attrOk)
theorem all_snoc {α : Type} [Inhabited α] {p : α → Bool} {l : List α} {i : Nat} (h : i < l.length) (h0 : (l.take i).all p = true) (h1 : p (l.getD i default) = true) : (l.take (i + 1)).all p = true := by
  rw [List.take_add_one, List.all_append, h0, List.getElem?_eq_getElem h]
  rw [List.getD_eq_getElem?_getD, List.getElem?_eq_getElem h] at h1
  simpa using h1
theorem all_no {α : Type} [Inhabited α] {p : α → Bool} {l : List α} {i : Nat} (h : i < l.length) (h1 : p (l.getD i default) = false) : l.all p = false := by
  rw [List.all_eq_false]
  exact ⟨_, En.getD_mem h, by rw [h1]; simp⟩
end Go.Ms
set_option maxRecDepth 8000
set_option linter.unusedVariables false
namespace Go.Proofs.YtgaahjmgneallaaGreat
open Go.Vk
attribute [local irreducible] HT HX RegS RegA RegM OpP OpC AltT
attribute [local irreducible] Ber.tagB Ber.lenB Ber.intB Ms.textB Ms.wV Ms.wF Ms.filB Ms.piecesB Ms.tagF Fi.isF Fi.wt Ms.wM Ms.wA Ms.textsB Ms.modsB Ms.attrsB Ms.opB
theorem rfTexts25 (l m : List (List UInt8)) (hl : l.length ≤ 1152921504606846976) : CFn Tryz.prog 55 [TSl 1 En.cS l, TSl 1 En.cS m] (Is (.bool (decide (l = m)))) := by
  refine CallsC.of Tryz.call55 Tryz.func55 rfl Tryz.ntmps55 rfl fun w0 G0 S0 hs ho => ?_
  refine run ?_
  refine ⟨fun h => ?_, fun hc => ?_⟩
  · exact (decide_eq_false (fun e => h (by rw [e]))).symm
  refine HT.loopX (σ := Nat) [0, 1] (fun i => [(5, okI .i64 (i : Int))]) (fun _ => []) (fun i => i ≤ l.length ∧ l.take i = m.take i) (fun i => l.length - i) 0 ⟨Nat.zero_le _, rfl⟩ (run trivial) (run trivial) ?_
  rintro i ⟨hi, he⟩
  have hc' : l.length = m.length := by
    have : (l.length : Int) = (m.length : Int) := Decidable.not_not.1 hc
    omega
  refine run ?_
  refine ⟨fun h1 h2 => ?_, fun h1 h2 => ?_, fun h1 => ?_⟩
  · exact (decide_eq_false (fun e => h2 (by rw [e]))).symm
  · exact HX.roundX (i + 1) ⟨⟨by omega, En.take_ext (by omega) hc' he (by exact Decidable.not_not.1 h2)⟩, by omega⟩ rfl (run trivial) (run trivial)
  · exact (decide_eq_true (En.take_all h1 hc' he)).symm
theorem rfSameMods25 (l m : List Ms.Mod) (hl : l.length ≤ 1152921504606846976) (hv : ∀ a ∈ l, a.vals.length ≤ 1000000000) : CFn Tryz.prog 56 [TSl 3 Ms.cMod l, TSl 3 Ms.cMod m] (Is (.bool (decide (l = m)))) := by
  refine CallsC.of Tryz.call56 Tryz.func56 rfl Tryz.ntmps56 rfl fun w0 G0 S0 hs ho => ?_
  refine run ?_
  refine ⟨fun h => ?_, fun hc => ?_⟩
  · exact (decide_eq_false (fun e => h (by rw [e]))).symm
  refine HT.loopX (σ := Nat) [0, 1] (fun i => [(5, okI .i64 (i : Int))]) (fun _ => []) (fun i => i ≤ l.length ∧ l.take i = m.take i) (fun i => l.length - i) 0 ⟨Nat.zero_le _, rfl⟩ (run trivial) (run trivial) ?_
  rintro i ⟨hi, he⟩
  have hc' : l.length = m.length := by
    have : (l.length : Int) = (m.length : Int) := Decidable.not_not.1 hc
    omega
  have cf' := fun (hlt : i < l.length) => rfTexts25 (l.getD i default).vals (m.getD i default).vals (by have := hv _ (En.getD_mem hlt); omega)
  clear hv
  have hme := Ms.mod_eq (l.getD i default) (m.getD i default)
  refine run ?_
  refine ⟨fun h1 h2 => ?_, fun h1 h2 => ?_, fun h1 => ?_⟩
  · refine (decide_eq_false (fun e => ?_)).symm
    rw [e] at h2
    simp at h2
  · exact HX.roundX (i + 1) ⟨⟨by omega, En.take_ext (by omega) hc' he (of_decide_eq_true (by rw [hme]; simp only [Bool.and_eq_true, decide_eq_true_eq]; simp only [ne_eq, Decidable.not_not] at h2; exact h2))⟩, by omega⟩ rfl (run trivial) (run trivial)
  · exact (decide_eq_true (En.take_all h1 hc' he)).symm
theorem rfSameAttrs25 (l m : List En.Attr) (hl : l.length ≤ 1152921504606846976) (hv : ∀ a ∈ l, a.vals.length ≤ 1000000000) : CFn Tryz.prog 37 [TSl 2 En.cAttr l, TSl 2 En.cAttr m] (Is (.bool (decide (l = m)))) := by
  refine CallsC.of Tryz.call37 Tryz.func37 rfl Tryz.ntmps37 rfl fun w0 G0 S0 hs ho => ?_
  refine run ?_
  refine ⟨fun h => ?_, fun hc => ?_⟩
  · exact (decide_eq_false (fun e => h (by rw [e]))).symm
  refine HT.loopX (σ := Nat) [0, 1] (fun i => [(5, okI .i64 (i : Int))]) (fun _ => []) (fun i => i ≤ l.length ∧ l.take i = m.take i) (fun i => l.length - i) 0 ⟨Nat.zero_le _, rfl⟩ (run trivial) (run trivial) ?_
  rintro i ⟨hi, he⟩
  have hc' : l.length = m.length := by
    have : (l.length : Int) = (m.length : Int) := Decidable.not_not.1 hc
    omega
  have cf' := fun (hlt : i < l.length) => rfTexts25 (l.getD i default).vals (m.getD i default).vals (by have := hv _ (En.getD_mem hlt); omega)
  clear hv
  have hme := Ms.attr_eq (l.getD i default) (m.getD i default)
  refine run ?_
  refine ⟨fun h1 h2 => ?_, fun h1 h2 => ?_, fun h1 => ?_⟩
  · refine (decide_eq_false (fun e => ?_)).symm
    rw [e] at h2
    simp at h2
  · exact HX.roundX (i + 1) ⟨⟨by omega, En.take_ext (by omega) hc' he (of_decide_eq_true (by rw [hme]; simp only [Bool.and_eq_true, decide_eq_true_eq]; simp only [ne_eq, Decidable.not_not] at h2; exact h2))⟩, by omega⟩ rfl (run trivial) (run trivial)
  · exact (decide_eq_true (En.take_all h1 hc' he)).symm
set_option maxHeartbeats 8000000 in
theorem rfSame25 (a b : Ms.Req) (ha : Ms.Okr a) : CFn Tryz.prog 18 [TAgg (Ms.cReq a), TAgg (Ms.cReq b)] (Is (.bool (decide (a = b)))) := by
  have h1 := ha.filw
  have h2 := ha.want
  have h3 := ha.mods
  have h4 := ha.attrs
  have c1 := rfSame (Fi.nodes a.fil) a.fil (Nat.le_refl _) h1 b.fil
  rw [Fi.cF_open a.fil, Fi.cF_open b.fil] at c1
  have c2 := rfTexts25 a.want b.want (by have := Ms.sm_len Ms.wV_pos a.want; omega)
  have c3 := rfSameMods25 a.mods b.mods (by have := Ms.sm_len Ms.wM_pos a.mods; omega) (fun x hx => by have := Ms.wM_vals x; have := Ms.sm_mem (f := Ms.wM) hx; omega)
  have c4 := rfSameAttrs25 a.attrs b.attrs (by have := Ms.sm_len Ms.wA_pos a.attrs; omega) (fun x hx => by have := Ms.wA_vals x; have := Ms.sm_mem (f := Ms.wA) hx; omega)
  rw [Ms.req_eq]
  clear h1 h2 h3 h4 ha
  refine CallsC.of Tryz.call18 Tryz.func18 rfl Tryz.ntmps18 rfl fun w0 G0 S0 hs ho => ?_
  refine run ?_
  rw [Bool.eq_iff_iff]
  simp only [allB, Bool.and_eq_true, Bool.and_true, decide_eq_true_eq, beq_iff_eq]
  constructor <;> (intro h; simp [h])
theorem rfKind25 (k : Int) : CFn Tryz.prog 58 [okI .i64 k] (Is (.bool (Ms.isKindB k))) := by
  have h := @Ms.isKindB_iff k
  refine CallsC.of Tryz.call58 Tryz.func58 rfl Tryz.ntmps58 rfl fun w0 G0 S0 hs ho => ?_
  refine run ?_
  rw [Bool.eq_iff_iff, h]
  simp only [Bool.or_eq_true, decide_eq_true_eq]
  constructor <;> (intro h; omega)
set_option maxHeartbeats 4000000 in
theorem rfLists25 (r : Ms.Req) (ha : Ms.Okr r) : CFn Tryz.prog 59 [TAgg (Ms.cReq r)] (Is (.bool (Ms.listsB r))) := by
  have h3 := Ms.sm_len Ms.wM_pos r.mods
  have h4 := Ms.sm_len Ms.wA_pos r.attrs
  have o3 := ha.mods
  have o4 := ha.attrs
  have hmv : ∀ i, i < r.mods.length → (r.mods.getD i default).vals.length ≤ 90000000 := fun i hi => Nat.le_trans (Ms.wM_vals _) (Nat.le_trans (Ms.sm_mem (f := Ms.wM) (En.getD_mem hi)) o3)
  have hav : ∀ i, i < r.attrs.length → (r.attrs.getD i default).vals.length ≤ 90000000 := fun i hi => Nat.le_trans (Ms.wA_vals _) (Nat.le_trans (Ms.sm_mem (f := Ms.wA) (En.getD_mem hi)) o4)
  clear ha
  unfold Ms.listsB Ms.fewB
  refine CallsC.of Tryz.call59 Tryz.func59 rfl Tryz.ntmps59 rfl fun w0 G0 S0 hs ho => ?_
  refine run ?_
  intro hf
  have hf' : (decide ((r.want.length : Int) ≤ 64) && decide ((r.mods.length : Int) ≤ 64) && decide ((r.attrs.length : Int) ≤ 64)) = true := by grind
  rw [hf', Bool.true_and]
  refine HT.loopX (σ := Nat) [1] (fun i => [(3, okI .i64 (i : Int))]) (fun _ => []) (fun i => i ≤ r.mods.length ∧ (r.mods.take i).all Ms.modOk = true) (fun i => r.mods.length - i) 0 ⟨Nat.zero_le _, rfl⟩ (run trivial) (run trivial) ?_
  rintro i ⟨hi, he⟩
  by_cases hlt : i < r.mods.length
  · have hv := hmv i hlt
    clear hmv hav
    have hd : Ms.modOk (r.mods.getD i default) = (decide (0 ≤ (r.mods.getD i default).kind) && decide ((r.mods.getD i default).kind ≤ 2) && decide (((r.mods.getD i default).vals.length : Int) ≤ 64)) := rfl
    refine run ?_
    refine ⟨fun _ h => ?_, fun _ h => ?_⟩
    · have hn : Ms.modOk (r.mods.getD i default) = false := by rw [hd]; grind
      rw [Ms.all_no hlt hn, Bool.false_and]
    · have hn : Ms.modOk (r.mods.getD i default) = true := by rw [hd]; grind
      exact HX.roundX (i + 1) ⟨⟨by omega, Ms.all_snoc hlt he hn⟩, by omega⟩ rfl (run trivial) (run trivial)
  · rw [List.take_of_length_le (by omega)] at he
    rw [he, Bool.true_and]
    clear hmv
    refine run ?_
    intro _
    refine HT.loopX (σ := Nat) [1] (fun i => [(4, okI .i64 (i : Int))]) (fun _ => []) (fun i => i ≤ r.attrs.length ∧ (r.attrs.take i).all Ms.attrOk = true) (fun i => r.attrs.length - i) 0 ⟨Nat.zero_le _, rfl⟩ (run trivial) (run trivial) ?_
    clear hi hlt he
    rintro i ⟨hi, he⟩
    by_cases hlt : i < r.attrs.length
    · have hv := hav i hlt
      clear hav
      have hd : Ms.attrOk (r.attrs.getD i default) = decide (((r.attrs.getD i default).vals.length : Int) ≤ 64) := rfl
      refine run ?_
      refine ⟨fun _ h => ?_, fun _ h => ?_⟩
      · have hn : Ms.attrOk (r.attrs.getD i default) = false := by rw [hd]; grind
        exact (Ms.all_no hlt hn).symm
      · have hn : Ms.attrOk (r.attrs.getD i default) = true := by rw [hd]; grind
        exact HX.roundX (i + 1) ⟨⟨by omega, Ms.all_snoc hlt he hn⟩, by omega⟩ rfl (run trivial) (run trivial)
    · rw [List.take_of_length_le (by omega)] at he
      rw [he]
      clear hav
      exact run trivial
set_option maxHeartbeats 4000000 in
theorem rfBlank25 (r : Ms.Req) : CFn Tryz.prog 61 [TAgg (Ms.cReq r)] (TAgg (Ms.cReq (Ms.blankR r))) := by
  obtain ⟨num, kind, dn, pass, scope, limit, fil, want, mods, attrs, rdn, keep, above, up, avaT, avaV, which⟩ := r
  unfold Ms.blankR
  dsimp only
  by_cases h0 : kind = 0
  · subst h0
    simp only [reduceIte, Int.reduceEq, or_self, or_false, false_or, or_true, true_or]
    dsimp only [Ms.cReq]
    have pl := Plan.mk' 4 [(0,3,[]),(1,3,[]),(2,3,[]),(3,3,[]),(4,3,[]),(6,3,[]),(5,0,[]),(7,0,[])]
    refine CallsC.of Tryz.call61 Tryz.func61 rfl Tryz.ntmps61 rfl fun w0 G0 S0 hs ho => ?_
    refine run ?_
    and_intros <;> intros <;> rfl
  by_cases h2 : kind = 2
  · subst h2
    simp only [reduceIte, Int.reduceEq, or_self, or_false, false_or, or_true, true_or]
    dsimp only [Ms.cReq]
    refine CallsC.of Tryz.call61 Tryz.func61 rfl Tryz.ntmps61 rfl fun w0 G0 S0 hs ho => ?_
    refine run ?_
    and_intros <;> intros <;> rfl
  by_cases h3 : kind = 3
  · subst h3
    simp only [reduceIte, Int.reduceEq, or_self, or_false, false_or, or_true, true_or]
    dsimp only [Ms.cReq]
    have pl := Plan.mk' 6 [(0,3,[]),(1,3,[]),(2,3,[]),(3,3,[]),(4,3,[]),(5,3,[]),(6,3,[]),(7,3,[]),(8,3,[]),(9,3,[]),(10,3,[]),(12,3,[]),(14,3,[]),(16,3,[]),(18,3,[]),(11,0,[]),(13,0,[]),(15,0,[]),(17,0,[]),(19,0,[])]
    refine CallsC.of Tryz.call61 Tryz.func61 rfl Tryz.ntmps61 rfl fun w0 G0 S0 hs ho => ?_
    exact run trivial
  by_cases h6 : kind = 6
  · subst h6
    simp only [reduceIte, Int.reduceEq, or_self, or_false, false_or, or_true, true_or]
    dsimp only [Ms.cReq]
    have pl := Plan.mk' 8 [(0,3,[]),(1,3,[]),(2,3,[]),(3,3,[]),(4,3,[]),(6,3,[]),(5,0,[]),(7,0,[])]
    refine CallsC.of Tryz.call61 Tryz.func61 rfl Tryz.ntmps61 rfl fun w0 G0 S0 hs ho => ?_
    refine run ?_
    and_intros <;> intros <;> rfl
  by_cases h8 : kind = 8
  · subst h8
    simp only [reduceIte, Int.reduceEq, or_self, or_false, false_or, or_true, true_or]
    dsimp only [Ms.cReq]
    have pl := Plan.mk' 10 [(0,3,[]),(1,3,[]),(2,3,[]),(3,3,[]),(4,3,[]),(6,3,[]),(5,0,[]),(7,0,[])]
    refine CallsC.of Tryz.call61 Tryz.func61 rfl Tryz.ntmps61 rfl fun w0 G0 S0 hs ho => ?_
    refine run ?_
    and_intros <;> intros <;> rfl
  by_cases h10 : kind = 10
  · subst h10
    simp only [reduceIte, Int.reduceEq, or_self, or_false, false_or, or_true, true_or]
    dsimp only [Ms.cReq]
    refine CallsC.of Tryz.call61 Tryz.func61 rfl Tryz.ntmps61 rfl fun w0 G0 S0 hs ho => ?_
    refine run ?_
    and_intros <;> intros <;> rfl
  by_cases h12 : kind = 12
  · subst h12
    simp only [reduceIte, Int.reduceEq, or_self, or_false, false_or, or_true, true_or]
    dsimp only [Ms.cReq]
    have pl := Plan.mk' 14 [(0,3,[]),(1,3,[]),(2,3,[]),(3,3,[]),(4,3,[]),(5,3,[]),(6,3,[]),(7,3,[]),(8,3,[]),(9,3,[]),(10,3,[]),(12,3,[]),(14,3,[]),(16,3,[]),(18,3,[]),(11,0,[]),(13,0,[]),(15,0,[]),(17,0,[]),(19,0,[])]
    refine CallsC.of Tryz.call61 Tryz.func61 rfl Tryz.ntmps61 rfl fun w0 G0 S0 hs ho => ?_
    refine run ?_
    and_intros <;> intros <;> rfl
  by_cases h14 : kind = 14
  · subst h14
    simp only [reduceIte, Int.reduceEq, or_self, or_false, false_or, or_true, true_or]
    dsimp only [Ms.cReq]
    have pl := Plan.mk' 16 [(0,3,[]),(1,3,[]),(2,3,[]),(3,3,[]),(4,3,[]),(6,3,[]),(5,0,[]),(7,0,[])]
    refine CallsC.of Tryz.call61 Tryz.func61 rfl Tryz.ntmps61 rfl fun w0 G0 S0 hs ho => ?_
    refine run ?_
    and_intros <;> intros <;> rfl
  by_cases h16 : kind = 16
  · subst h16
    simp only [reduceIte, Int.reduceEq, or_self, or_false, false_or, or_true, true_or]
    dsimp only [Ms.cReq]
    refine CallsC.of Tryz.call61 Tryz.func61 rfl Tryz.ntmps61 rfl fun w0 G0 S0 hs ho => ?_
    refine run ?_
    and_intros <;> intros <;> rfl
  simp only [h0, h2, h3, h6, h8, h10, h12, h14, h16, reduceIte, or_self]
  dsimp only [Ms.cReq]
  refine CallsC.of Tryz.call61 Tryz.func61 rfl Tryz.ntmps61 rfl fun w0 G0 S0 hs ho => ?_
  refine run ?_
  and_intros <;> intros <;> rfl
attribute [local irreducible] Ms.soundB Ms.reqB Ms.blankR
set_option maxHeartbeats 8000000 in
theorem rfIs25 (r : Ms.Req) (ha : Ms.Okr r) : CFn Tryz.prog 20 [TAgg (Ms.cReq r)] (Is (.bool (Ms.isR r))) := by
  have c1 := rfKind25 r.kind
  have c2 := rfLists25 r ha
  have c3 := rfBlank25 r
  have c4 := rfSame25 r (Ms.blankR r) ha
  have h1 := ha.filw
  have c5 := rfIs r.fil h1
  rw [Fi.cF_open r.fil] at c5
  have hd : Ms.soundB r = (Ms.isKindB r.kind && Ms.numB r.num 1 && decide (Ms.unnR r = Ms.zR) && (decide (0 ≤ r.scope) && decide (r.scope ≤ 2) && Ms.numB r.limit 0 && Ms.numB r.which 0) && (!decide (r.kind = 3) || Fi.isF r.fil) && (r.above || decide (r.up = [])) && (Ms.fewB r.want && Ms.fewB r.mods && Ms.fewB r.attrs) && (r.mods.all Ms.modOk && r.attrs.all Ms.attrOk)) := by unfold Ms.soundB; rfl
  have hl : Ms.listsB r = (Ms.fewB r.want && Ms.fewB r.mods && Ms.fewB r.attrs && (r.mods.all Ms.modOk && r.attrs.all Ms.attrOk)) := rfl
  have hb : Ms.isKindB r.kind = true → (r = Ms.blankR r ↔ Ms.unnR r = Ms.zR) := Ms.blank_iff
  have hn : ∀ n m : Int, Ms.numB n m = (decide (m ≤ n) && decide (n ≤ 2147483647)) := fun _ _ => rfl
  unfold Ms.isR
  cases hS : Ms.soundB r with
  | false =>
    rw [hd, hn, hn, hn] at hS
    clear hd hn h1 ha
    rw [Bool.false_and]
    refine CallsC.of Tryz.call20 Tryz.func20 rfl Tryz.ntmps20 rfl fun w0 G0 S0 hs ho => ?_
    refine run ?_
    intro g1 g2
    exfalso
    rw [hl] at g1
    grind
  | true =>
    have hs2 := Ms.soundB_iff hS
    have c6 := rfBytes25 r ha hs2.1 (fun h => Ms.isF_pr (hs2.2 h))
    rw [hd, hn, hn, hn] at hS
    clear hd hn h1 ha hs2
    rw [Bool.true_and]
    refine CallsC.of Tryz.call20 Tryz.func20 rfl Tryz.ntmps20 rfl fun w0 G0 S0 hs ho => ?_
    refine run ?_
    rw [hl]
    refine ⟨fun g1 => ?_, fun g1 g2 => ?_⟩
    · exfalso; grind
    · exfalso; grind
end Go.Proofs.YtgaahjmgneallaaGreat
set_option maxRecDepth 8000
set_option linter.unusedVariables false
namespace Go.Proofs.YtgaahjmgneallaaGreat
open Go.Vk
attribute [local irreducible] HT HX RegS RegA RegM OpP OpC AltT
theorem tagB_len1 (tag : UInt8) (body : List UInt8) : 2 ≤ (Ber.tagB tag [body]).length ∧ (Ber.tagB tag [body]).length ≤ body.length + 10 := by
  have h := Ber.lenB_len (body.length : Int)
  have h2 : 1 ≤ (Ber.lenB (body.length : Int)).length := by
    unfold Ber.lenB; split <;> simp
  rw [Ber.tagB_one]
  simp only [List.length_cons, List.length_append]
  omega
theorem nextAt {b : List UInt8} {r : Ber.NextR} (h : Ber.nextB b = r) (hl : b.length ≤ 140737488355328) : CFn Tryz.prog 22 [TBytes b] (TTup [okI .u8 (r.tag.toNat : Int), TBytes r.body, TBytes r.rest, okI .i64 r.e]) := by
  subst h; exact nextP b hl
theorem rep_len (body : List UInt8) (n : Nat) (h : body.length ≤ 300) : (List.replicate n body).flatten.length ≤ n * 300 := by
  induction n with
  | zero => simp
  | succ n ih => rw [List.replicate_succ, List.flatten_cons, List.length_append]; omega
theorem rep_succ (body : List UInt8) (n : Nat) : (List.replicate (n + 1) body).flatten = (List.replicate n body).flatten ++ body := by
  rw [List.replicate_succ', List.flatten_append]; simp
end Go.Proofs.YtgaahjmgneallaaGreat
set_option maxRecDepth 8000
set_option linter.unusedVariables false
namespace Go.Proofs.YtgaahjmgneallaaGreat
open Go.Vk
attribute [local irreducible] HT HX RegS RegA RegM OpP OpC AltT
attribute [local irreducible] Ber.lenB Ber.tagB Ber.nextB
theorem tagB_two (tag : UInt8) (a b : List UInt8) : Ber.tagB tag [a, b] = Ber.tagB tag [a ++ b] := by
  unfold Ber.tagB
  simp [Ber.tot]
theorem row_len {zs : List Int} {len : Nat} (h : len ≤ 140737488351232) : (bytesOf (zs.take len)).length ≤ 140737488351232 := by
  simp only [bytesOf, List.length_map, List.length_take]
  omega
end Go.Proofs.YtgaahjmgneallaaGreat
set_option linter.unusedVariables false
namespace Go.Ber
open Go.Vk
abbrev It := UInt8 × List UInt8
def cIt (x : It) : List Ty := [okI .u8 (x.1.toNat : Int), TBytes x.2]
/-- All tags and bodies, one behind the other; the error. -/
def allE : Nat → List UInt8 → List It → List It × Int
  | 0, _, l => (l, 0)
  | k + 1, b, l => if b.length = 0 then (l, 0) else if (nextB b).e = 0 then allE k (nextB b).rest (l ++ [((nextB b).tag, (nextB b).body)]) else ([], (nextB b).e)
theorem allE_end {k : Nat} {b : List UInt8} {l : List It} (h : b.length = 0) : allE k b l = (l, 0) := by
  cases k
  · rfl
  · unfold allE; rw [if_pos h]
theorem allE_bad {k : Nat} {b : List UInt8} {l : List It} (h : ¬ b.length = 0) (h1 : ¬ (nextB b).e = 0) : allE (k + 1) b l = ([], (nextB b).e) := by
  unfold allE; rw [if_neg h, if_neg h1]
theorem allE_go {k : Nat} {b : List UInt8} {l : List It} (h : ¬ b.length = 0) (h1 : (nextB b).e = 0) : allE (k + 1) b l = allE k (nextB b).rest (l ++ [((nextB b).tag, (nextB b).body)]) := by
  conv => lhs; unfold allE
  rw [if_neg h, if_pos h1]
theorem allE_len : ∀ (k : Nat) (b : List UInt8) (l : List It), (allE k b l).1.length ≤ l.length + b.length
  | 0, b, l => by show l.length ≤ _; omega
  | k + 1, b, l => by
    have h := nextB_len b
    unfold allE
    split
    · dsimp only; omega
    · split
      · rename_i h1
        have := allE_len k (nextB b).rest (l ++ [((nextB b).tag, (nextB b).body)])
        have h2 := h.2.2 h1
        simp only [List.length_append, List.length_cons, List.length_nil] at this
        omega
      · simp
end Go.Ber
set_option maxRecDepth 8000
set_option linter.unusedVariables false
namespace Go.Proofs.YtgaahjmgneallaaGreat
open Go.Vk
attribute [local irreducible] HT HX RegS RegA RegM OpP OpC AltT
attribute [local irreducible] Ber.lenB Ber.tagB Ber.nextB Ber.allE
set_option maxHeartbeats 1000000 in
theorem all (b : List UInt8) (hl : b.length ≤ 134217728) : CFn Tryz.prog 75 [TBytes b] (TTup [TSl 2 Ber.cIt (Ber.allE b.length b []).1, okI .i64 (Ber.allE b.length b []).2]) := by
  have c1 := @next
  have c2 := @clone
  refine CallsC.of Tryz.call75 Tryz.func75 rfl Tryz.ntmps75 rfl fun w0 G0 S0 hs ho => ?_
  refine run ?_
  refine HT.loopX (σ := (Nat × List UInt8) × List Ber.It × Value) [] (fun t => [(0, TBytes t.1.2), (4, TAnd (Is t.2.2) (TSl 2 Ber.cIt t.2.1))]) (fun t => [ownSl t.2.2 2 119]) (fun t => Ber.allE t.1.1 t.1.2 t.2.1 = Ber.allE b.length b [] ∧ t.1.2.length ≤ t.1.1 ∧ t.2.1.length + t.1.2.length ≤ b.length) (fun t => t.1.2.length) ((b.length, b), [], .slice none 0 0) ⟨rfl, by simp, by simp⟩ (run trivial) (run trivial) ?_
  rintro ⟨⟨k, c⟩, l, v⟩ ⟨h1, h2, h3⟩
  dsimp only at h1 h2 h3 ⊢
  have hn := Ber.nextB_len c
  by_cases h0 : c.length = 0
  · rw [Ber.allE_end h0] at h1
    rw [← h1]
    exact run trivial
  · obtain ⟨k, rfl⟩ : ∃ j, k = j + 1 := ⟨k - 1, by omega⟩
    by_cases h5 : (Ber.nextB c).e = 0
    · rw [Ber.allE_go h0 h5] at h1
      have hn2 := hn.2.2 h5
      refine run ?_
      intro v' _ _
      exact HX.roundX ((k, (Ber.nextB c).rest), l ++ [((Ber.nextB c).tag, (Ber.nextB c).body)], v') ⟨⟨h1, by dsimp only; omega, by simp; omega⟩, by dsimp only; omega⟩ rfl (run trivial) (run trivial)
    · rw [Ber.allE_bad h0 h5] at h1
      rw [← h1]
      exact run trivial
set_option maxHeartbeats 1000000 in
theorem refAll (b : List UInt8) (hl : b.length ≤ 134217728) : CFn Tryz.prog 80 [TBytes b] (TTup [TSl 2 Ber.cIt (Ber.allE b.length b []).1, okI .i64 (Ber.allE b.length b []).2]) := by
  have c1 := @refNext
  refine CallsC.of Tryz.call80 Tryz.func80 rfl Tryz.ntmps80 rfl fun w0 G0 S0 hs ho => ?_
  refine run ?_
  refine HT.loopX (σ := (Nat × List UInt8) × List Ber.It × Value) [] (fun t => [(0, TBytes t.1.2), (4, TAnd (Is t.2.2) (TSl 2 Ber.cIt t.2.1))]) (fun t => [ownSl t.2.2 2 126]) (fun t => Ber.allE t.1.1 t.1.2 t.2.1 = Ber.allE b.length b [] ∧ t.1.2.length ≤ t.1.1 ∧ t.2.1.length + t.1.2.length ≤ b.length) (fun t => t.1.2.length) ((b.length, b), [], .slice none 0 0) ⟨rfl, by simp, by simp⟩ (run trivial) (run trivial) ?_
  rintro ⟨⟨k, c⟩, l, v⟩ ⟨h1, h2, h3⟩
  dsimp only at h1 h2 h3 ⊢
  have hn := Ber.nextB_len c
  by_cases h0 : c.length = 0
  · rw [Ber.allE_end h0] at h1
    rw [← h1]
    exact run trivial
  · obtain ⟨k, rfl⟩ : ∃ j, k = j + 1 := ⟨k - 1, by omega⟩
    by_cases h5 : (Ber.nextB c).e = 0
    · rw [Ber.allE_go h0 h5] at h1
      have hn2 := hn.2.2 h5
      refine run ?_
      intro v' _ _
      exact HX.roundX ((k, (Ber.nextB c).rest), l ++ [((Ber.nextB c).tag, (Ber.nextB c).body)], v') ⟨⟨h1, by dsimp only; omega, by simp; omega⟩, by dsimp only; omega⟩ rfl (run trivial) (run trivial)
    · rw [Ber.allE_bad h0 h5] at h1
      rw [← h1]
      exact run trivial
end Go.Proofs.YtgaahjmgneallaaGreat
set_option linter.unusedVariables false
namespace Go.Ms
open Go.Vk
/-- Whether an item of a tag is next. -/
def isI : List Ber.It → Bool → UInt8 → Bool
  | [], _, _ => false
  | x :: _, bad, t => !bad && decide (x.1 = t)
/-- What is taken; what is left. -/
def takeI : List Ber.It → Bool → UInt8 → List UInt8 × List Ber.It × Bool
  | [], _, _ => ([], [], true)
  | x :: r, bad, t => if bad = false ∧ x.1 = t then (x.2, r, bad) else ([], x :: r, true)
theorem takeI_is {l : List Ber.It} {bad : Bool} {t : UInt8} (h : isI l bad t = true) : bad = false ∧ ∃ x r, l = x :: r ∧ x.1 = t ∧ takeI l bad t = (x.2, r, false) := by
  cases l with
  | nil => cases h
  | cons x r =>
    unfold isI at h
    simp only [Bool.and_eq_true, Bool.not_eq_true', decide_eq_true_eq] at h
    obtain ⟨h1, h2⟩ := h
    subst h1
    exact ⟨rfl, x, r, rfl, h2, if_pos ⟨rfl, h2⟩⟩
theorem takeI_no {l : List Ber.It} {bad : Bool} {t : UInt8} (h : isI l bad t = false) : takeI l bad t = ([], l, true) := by
  cases l with
  | nil => rfl
  | cons x r =>
    unfold isI at h
    refine if_neg ?_
    intro hh
    have h' : (!bad && decide (x.1 = t)) = false := h
    rw [hh.1, decide_eq_true hh.2] at h'
    exact absurd h' (by simp)
def numI (l : List Ber.It) (bad : Bool) (t : UInt8) : Int × List Ber.It × Bool := ((Ber.fromIntB (takeI l bad t).1).1, (takeI l bad t).2.1, (takeI l bad t).2.2 || decide ((Ber.fromIntB (takeI l bad t).1).2 ≠ 0))
theorem u8_i {a b : UInt8} : ((a.toNat : Int) = (b.toNat : Int)) ↔ a = b := ⟨fun h => UInt8.toNat_inj.1 (by omega), fun h => by rw [h]⟩
end Go.Ms
set_option maxRecDepth 8000
set_option linter.unusedVariables false
namespace Go.Proofs.YtgaahjmgneallaaGreat
open Go.Vk
attribute [local irreducible] HT HX RegS RegA RegM OpP OpC AltT
attribute [local irreducible] Ber.tagB Ber.lenB Ber.intB Ber.allE Ber.fromIntB Ber.nextB
abbrev IX (g : Nat) (l : List Ber.It) (bad : Bool) : Res := ownP g 81 [TSl 2 Ber.cIt l, Is (.bool bad)]
theorem miApart (b : List UInt8) (hb : b.length ≤ 134217728) : CallsC Tryz.prog 38 [TBytes b] [] (fun v => Is (pAt (blk v) 0)) (fun v => [IX (blk v) (Ber.allE b.length b []).1 (decide ((Ber.allE b.length b []).2 ≠ 0))]) := by
  have c1 := all b hb
  have mu := Mut.mk' [14]
  refine CallsC.of Tryz.call38 Tryz.func38 rfl Tryz.ntmps38 rfl fun w0 G0 S0 hs ho => ?_
  exact run trivial
theorem miIs (g : Nat) (l : List Ber.It) (bad : Bool) (t : UInt8) : CallsC Tryz.prog 50 [Is (pAt g 0), okI .u8 (t.toNat : Int)] [IX g l bad] (fun _ => Is (.bool (Ms.isI l bad t))) (fun _ => [IX g l bad]) := by
  refine CallsC.of Tryz.call50 Tryz.func50 rfl Tryz.ntmps50 rfl fun w0 G0 S0 hs ho => ?_
  refine run ?_
  cases l with
  | nil => simp [Ms.isI]
  | cons x r =>
    have hx : ((x.1.toNat : Int) = (t.toNat : Int)) ↔ x.1 = t := Ms.u8_i
    have e : Ms.isI (x :: r) bad t = (!bad && decide (x.1 = t)) := rfl
    rw [e, List.getD_cons_zero]
    have : decide ((x.1.toNat : Int) = (t.toNat : Int)) = decide (x.1 = t) := decide_eq_decide.2 hx
    rw [this]
    simp
theorem miTake (g : Nat) (l : List Ber.It) (bad : Bool) (t : UInt8) (hl : l.length ≤ 134217728) : CallsC Tryz.prog 51 [Is (pAt g 0), okI .u8 (t.toNat : Int)] [IX g l bad] (fun _ => TBytes (Ms.takeI l bad t).1) (fun _ => [IX g (Ms.takeI l bad t).2.1 (Ms.takeI l bad t).2.2]) := by
  have c1 := miIs g l bad t
  cases h : Ms.isI l bad t with
  | true =>
    obtain ⟨rfl, x, r, rfl, hx, e⟩ := Ms.takeI_is h
    rw [e]
    rw [h] at c1
    refine CallsC.of Tryz.call51 Tryz.func51 rfl Tryz.ntmps51 rfl fun w0 G0 S0 hs ho => ?_
    refine run ?_
    exact ⟨fun _ => rfl, fun _ => rfl⟩
  | false =>
    rw [Ms.takeI_no h]
    rw [h] at c1
    refine CallsC.of Tryz.call51 Tryz.func51 rfl Tryz.ntmps51 rfl fun w0 G0 S0 hs ho => ?_
    exact run trivial
theorem miNum (g : Nat) (l : List Ber.It) (bad : Bool) (t : UInt8) (hl : l.length ≤ 134217728) : CallsC Tryz.prog 39 [Is (pAt g 0), okI .u8 (t.toNat : Int)] [IX g l bad] (fun _ => okI .i64 (Ms.numI l bad t).1) (fun _ => [IX g (Ms.numI l bad t).2.1 (Ms.numI l bad t).2.2]) := by
  have c1 := miTake g l bad t hl
  have c2 := fromInt (Ms.takeI l bad t).1
  unfold Ms.numI
  generalize Ms.takeI l bad t = y at c1 c2 ⊢
  generalize Ber.fromIntB y.1 = z at c2 ⊢
  refine CallsC.of Tryz.call39 Tryz.func39 rfl Tryz.ntmps39 rfl fun w0 G0 S0 hs ho => ?_
  exact run trivial
end Go.Proofs.YtgaahjmgneallaaGreat
