/-
  The contract of the law MsgTurned.
  Plain: a request with controls behind what it asks is read as without; with another item there it is not read.
  The contract of the law MsgControls.
-/
import Derived.Test.YtgaahjmgneallaaGreatGaw
import Derived.Test.YtgaahjmgneallaaGreatGao
set_option linter.unusedSimpArgs false
set_option linter.unusedVariables false
set_option linter.unusedVariables false
namespace Go.Ms
open Go.Vk
theorem dec_cut {r : Req} (h : isR r = true) {k : Nat} (hk : k < (reqB r).length) : decP ((reqB r).take k) = (zR, 2) := by
  have hb := reqB_body (isR_len h)
  rw [reqB_one] at hk ⊢
  unfold decP
  rw [Ber.cuts 48 (by decide) _ hb k hk]
  rfl
theorem dec_more {r : Req} (h : isR r = true) {m : List UInt8} (hm : m ≠ []) : decP (reqB r ++ m) = (zR, 3) := by
  have hb := reqB_body (isR_len h)
  rw [reqB_one]
  unfold decP
  rw [Ber.back 48 (by decide) _ m hb]
  simp [hm]
end Go.Ms
set_option maxRecDepth 8000
set_option linter.unusedVariables false
namespace Go.Proofs.YtgaahjmgneallaaGreat
open Go.Vk
attribute [local irreducible] HT HX RegS RegA RegM OpP OpC AltT
attribute [local irreducible] Ber.tagB Ber.lenB Ber.intB Ms.textB Ms.wV Ms.wF Ms.filB Ms.piecesB Ms.tagF Fi.isF Fi.wt Ms.wM Ms.wA Ms.textsB Ms.modsB Ms.attrsB Ms.opB Ms.isR Ms.reqB Ms.heavyB Ms.frameB Ms.decP
set_option maxHeartbeats 4000000 in
theorem lwTurned25 (r : Ms.Req) (m : List UInt8) (hr : Ms.Okq r) (hl : m.length ≤ 1048576) : CFn Tryz.prog 6 [TAgg (Ms.cReq r), TBytes m] (Is (.bool true)) := by
  have c0 := lwHeavy25 r hr
  have c9 := lwKnown25
  cases h : Ms.heavyB r with
  | true =>
    rw [h] at c0
    have su := Sure.mk' [14, 15]
    clear hr
    refine CallsC.of Tryz.call6 Tryz.func6 rfl Tryz.ntmps6 rfl fun w0 G0 S0 hs ho => ?_
    exact run trivial
  | false =>
    have ha := Ms.okr_of hr h
    rw [h] at c0
    have c2 := rfIs25 r ha
    cases hi : Ms.isR r with
    | false =>
      rw [hi] at c2
      clear hr ha
      refine CallsC.of Tryz.call6 Tryz.func6 rfl Tryz.ntmps6 rfl fun w0 G0 S0 hs ho => ?_
      exact run trivial
    | true =>
      rw [hi] at c2
      by_cases hm1 : (m.length : Int) < 1
      · clear hr ha
        refine CallsC.of Tryz.call6 Tryz.func6 rfl Tryz.ntmps6 rfl fun w0 G0 S0 hs ho => ?_
        exact run trivial
      by_cases hm2 : (300 : Int) < (m.length : Int)
      · clear hr ha
        refine CallsC.of Tryz.call6 Tryz.func6 rfl Tryz.ntmps6 rfl fun w0 G0 S0 hs ho => ?_
        exact run trivial
      have c3 := msEncode r ha
      rw [hi] at c3
      simp only [reduceIte] at c3
      have h1 := Ms.isR_len hi
      have h2 := Ms.reqB_pos r
      have hm : m ≠ [] := fun e => by rw [e] at hm1; exact hm1 (by decide)
      have c4 := msDecode ((Ms.reqB r).take (((Ms.reqB r).length : Int) - 1).toNat) (by rw [List.length_take]; omega)
      rw [Ms.dec_cut hi (by omega)] at c4
      have c5 := msDecode (Ms.reqB r ++ m) (by rw [List.length_append]; omega)
      rw [Ms.dec_more hi hm] at c5
      have d5 : CFn Tryz.prog 16 [TBytes (([] ++ Ms.reqB r) ++ m)] (TTup [TAgg (Ms.cReq Ms.zR), okI .i64 3]) := c5
      have hB : (Ms.reqB r).length + m.length ≤ 70000 := by omega
      have hA : ([] ++ Ms.reqB r).length = (Ms.reqB r).length := rfl
      dsimp only at c4 c5
      clear hr ha hm d5
      have mu := Mut.mk' [50]
      refine CallsC.of Tryz.call6 Tryz.func6 rfl Tryz.ntmps6 rfl fun w0 G0 S0 hs ho => ?_
      exact run trivial
end Go.Proofs.YtgaahjmgneallaaGreat
set_option linter.unusedVariables false
namespace Go.Ms
open Go.Vk
/-- The items of a request's bytes. -/
def reqIts (r : Req) : List It := [(2, Ber.intB r.num), opIt r]
theorem req_next {r : Req} (h : isR r = true) : Ber.nextB (reqB r) = ⟨48, bodyB (reqIts r), [], 0⟩ := by
  have hl := isR_len h
  rw [reqB_it] at hl ⊢
  have w0 := it_len (48, bodyB [(2, Ber.intB r.num), opIt r])
  dsimp only at w0
  have e := Ber.back 48 (by decide) (bodyB (reqIts r)) [] (by unfold reqIts; omega)
  rw [List.append_nil] at e
  exact e
theorem opIt_ok (r : Req) : Ber.TagOk (opIt r).1 := by
  unfold opIt
  split
  · show Ber.TagOk 96; decide
  split
  · show Ber.TagOk 99; decide
  split
  · show Ber.TagOk 102; decide
  split
  · show Ber.TagOk 104; decide
  split
  · show Ber.TagOk 74; decide
  split
  · show Ber.TagOk 108; decide
  split
  · show Ber.TagOk 110; decide
  split
  · show Ber.TagOk 80; decide
  · show Ber.TagOk 66; decide
theorem dec_ctl {r : Req} (h : isR r = true) {t : UInt8} (ht : Ber.TagOk t) {c : List UInt8} (hl : (Ber.tagB 48 [bodyB (reqIts r), Ber.tagB t [c]]).length ≤ 65536) : decP (Ber.tagB 48 [bodyB (reqIts r), Ber.tagB t [c]]) = if t = 160 then (r, 0) else (zR, 3) := by
  have h0 := h
  unfold isR at h
  rw [Bool.and_eq_true] at h
  have hs := h.1
  have hn : okK r.num := by
    unfold soundB at hs
    simp only [Bool.and_eq_true] at hs
    exact (numB_k hs.1.1.1.1.1.1.2 (by decide)).1
  have eb : bodyB (reqIts r ++ [(t, c)]) = bodyB (reqIts r) ++ Ber.tagB t [c] := by
    unfold bodyB; rw [List.map_append, List.flatten_append]; simp [itB]
  have e1 : Ber.tagB 48 [bodyB (reqIts r), Ber.tagB t [c]] = itB (48, bodyB (reqIts r ++ [(t, c)])) := by
    rw [eb, tagB_flat]; simp [itB]
  rw [e1] at hl ⊢
  have w0 := it_len (48, bodyB (reqIts r ++ [(t, c)]))
  dsimp only at w0
  have w1 : (opIt r).2.length + 2 ≤ (bodyB (reqIts r ++ [(t, c)])).length := body_mem (by unfold reqIts; simp)
  have e := Ber.back 48 (by decide) (bodyB (reqIts r ++ [(t, c)])) [] (by omega)
  rw [List.append_nil] at e
  obtain ⟨a1, a2⟩ := body_all (l := reqIts r ++ [(t, c)]) (fun x hx => by
    unfold reqIts at hx
    simp only [List.cons_append, List.nil_append, List.mem_cons, List.not_mem_nil, or_false] at hx
    rcases hx with rfl | rfl | rfl
    · show Ber.TagOk 2; decide
    · exact opIt_ok r
    · exact ht) (by omega)
  have er : reqP (bodyB (reqIts r ++ [(t, c)])) = if t = 160 then (r, [], false) else (r, [(t, c)], false) := by
    unfold reqP
    rw [a1, a2]
    unfold reqIts
    rw [List.cons_append, num_back hn]
    dsimp only
    rw [List.cons_append, List.nil_append, op_back hs (by omega) [(t, c)]]
    dsimp only
    unfold mayI
    by_cases h160 : t = 160
    · subst h160
      rw [if_pos (by simp [isI]), if_pos rfl, take_it]
      rfl
    · rw [if_neg (by simp [isI, h160]), if_neg h160]
      rfl
  have e2 : Ber.nextB (itB (48, bodyB (reqIts r ++ [(t, c)]))) = ⟨48, bodyB (reqIts r ++ [(t, c)]), [], 0⟩ := e
  unfold decP
  rw [e2]
  dsimp only
  rw [er]
  by_cases h160 : t = 160
  · rw [if_pos h160, if_pos h160]
    dsimp only
    rw [h0]
    rfl
  · rw [if_neg h160, if_neg h160]
    dsimp only
    simp
end Go.Ms
set_option linter.unusedVariables false
namespace Go.Ms
theorem tag_len {t : UInt8} {x y : List UInt8} (h : x.length = y.length) : (Ber.tagB t [x]).length = (Ber.tagB t [y]).length := by
  rw [Ber.tagB_one, Ber.tagB_one, List.length_cons, List.length_cons, List.length_append, List.length_append, h]
end Go.Ms
set_option maxRecDepth 8000
set_option linter.unusedVariables false
namespace Go.Proofs.YtgaahjmgneallaaGreat
open Go.Vk
attribute [local irreducible] HT HX RegS RegA RegM OpP OpC AltT
attribute [local irreducible] Ber.tagB Ber.lenB Ber.intB Ms.textB Ms.wV Ms.wF Ms.filB Ms.piecesB Ms.tagF Fi.isF Fi.wt Ms.wM Ms.wA Ms.textsB Ms.modsB Ms.attrsB Ms.opB Ms.isR Ms.reqB Ms.heavyB Ms.frameB Ms.decP Ms.bodyB
set_option maxHeartbeats 4000000 in
theorem lwControls25 (r : Ms.Req) (c : List UInt8) (hr : Ms.Okq r) (hl : c.length ≤ 1048576) : CFn Tryz.prog 5 [TAgg (Ms.cReq r), TBytes c] (Is (.bool true)) := by
  have c0 := lwHeavy25 r hr
  have c9 := lwKnown25
  cases h : Ms.heavyB r with
  | true =>
    rw [h] at c0
    have su := Sure.mk' [19, 20]
    clear hr
    refine CallsC.of Tryz.call5 Tryz.func5 rfl Tryz.ntmps5 rfl fun w0 G0 S0 hs ho => ?_
    exact run trivial
  | false =>
    have ha := Ms.okr_of hr h
    rw [h] at c0
    have c2 := rfIs25 r ha
    cases hi : Ms.isR r with
    | false =>
      rw [hi] at c2
      clear hr ha
      refine CallsC.of Tryz.call5 Tryz.func5 rfl Tryz.ntmps5 rfl fun w0 G0 S0 hs ho => ?_
      exact run trivial
    | true =>
      rw [hi] at c2
      by_cases hm2 : (300 : Int) < (c.length : Int)
      · clear hr ha
        refine CallsC.of Tryz.call5 Tryz.func5 rfl Tryz.ntmps5 rfl fun w0 G0 S0 hs ho => ?_
        exact run trivial
      have c3 := msEncode r ha
      rw [hi] at c3
      simp only [reduceIte] at c3
      have h1 := Ms.isR_len hi
      have hb := Ber.nextB_len (Ms.reqB r)
      have c4 := nextP (Ms.reqB r) (by omega)
      rw [Ms.req_next hi] at c4 hb
      have e1 := fun (h2 : (Ber.tagB 48 [Ms.bodyB (Ms.reqIts r), Ber.tagB 160 [c]]).length ≤ 65536) => Ms.dec_ctl hi (t := 160) (by decide) h2
      have l0 := Ms.tag1_le 160 c
      have l1 := Ms.tag1_le 161 c
      have e3 : Ber.tot [Ms.bodyB (Ms.reqIts r), Ber.tagB 160 [c]] = (Ms.bodyB (Ms.reqIts r)).length + (Ber.tagB 160 [c]).length := by rw [Ms.tot_flat]; simp
      have e4 : Ber.tot [Ms.bodyB (Ms.reqIts r), Ber.tagB 161 [c]] = (Ms.bodyB (Ms.reqIts r)).length + (Ber.tagB 161 [c]).length := by rw [Ms.tot_flat]; simp
      have e5 : (Ber.tagB 161 [c]).length = (Ber.tagB 160 [c]).length := by rw [Ber.tagB_one, Ber.tagB_one]; rfl
      have e6 : (Ber.tagB 48 [Ms.bodyB (Ms.reqIts r), Ber.tagB 161 [c]]).length = (Ber.tagB 48 [Ms.bodyB (Ms.reqIts r), Ber.tagB 160 [c]]).length := by
        rw [Ms.tagB_flat 48 [Ms.bodyB (Ms.reqIts r), Ber.tagB 161 [c]], Ms.tagB_flat 48 [Ms.bodyB (Ms.reqIts r), Ber.tagB 160 [c]]]
        exact Ms.tag_len (by simp only [List.flatten_cons, List.flatten_nil, List.append_nil, List.length_append, e5])
      have tA : CFn Tryz.prog 23 [okI .u8 160, TSlX 1 (fun ts : List Ty => ts) [[TBytes c]]] (TBytes (Ber.tagB 160 [c])) := CFn.sub (tagO 160 [c] (by rw [Ber.tot_one]; omega) (by simp)).justFn (by exact byQ)
      have tB : CFn Tryz.prog 23 [okI .u8 161, TSlX 1 (fun ts : List Ty => ts) [[TBytes c]]] (TBytes (Ber.tagB 161 [c])) := CFn.sub (tagO 161 [c] (by rw [Ber.tot_one]; omega) (by simp)).justFn (by exact byQ)
      have tC : CFn Tryz.prog 23 [okI .u8 48, TSlX 1 (fun ts : List Ty => ts) [[TBytes (Ms.bodyB (Ms.reqIts r))], [TBytes (Ber.tagB 160 [c])]]] (TBytes (Ber.tagB 48 [Ms.bodyB (Ms.reqIts r), Ber.tagB 160 [c]])) := CFn.sub (tagO 48 [Ms.bodyB (Ms.reqIts r), Ber.tagB 160 [c]] (by dsimp only at hb; omega) (by simp)).justFn (by exact byQ)
      have tD : CFn Tryz.prog 23 [okI .u8 48, TSlX 1 (fun ts : List Ty => ts) [[TBytes (Ms.bodyB (Ms.reqIts r))], [TBytes (Ber.tagB 161 [c])]]] (TBytes (Ber.tagB 48 [Ms.bodyB (Ms.reqIts r), Ber.tagB 161 [c]])) := CFn.sub (tagO 48 [Ms.bodyB (Ms.reqIts r), Ber.tagB 161 [c]] (by dsimp only at hb; omega) (by simp)).justFn (by exact byQ)
      have w1 := Ms.tagB_le 48 [Ms.bodyB (Ms.reqIts r), Ber.tagB 160 [c]]
      dsimp only at c4 hb
      by_cases hg : (65536 : Int) < ((Ber.tagB 48 [Ms.bodyB (Ms.reqIts r), Ber.tagB 160 [c]]).length : Int)
      · clear hr ha e1
        generalize Ms.bodyB (Ms.reqIts r) = bd at *
        refine CallsC.of Tryz.call5 Tryz.func5 rfl Tryz.ntmps5 rfl fun w0 G0 S0 hs ho => ?_
        exact run trivial
      have d1 := msDecode (Ber.tagB 48 [Ms.bodyB (Ms.reqIts r), Ber.tagB 160 [c]]) (by omega)
      have d2 := msDecode (Ber.tagB 48 [Ms.bodyB (Ms.reqIts r), Ber.tagB 161 [c]]) (by omega)
      rw [Ms.dec_ctl hi (by decide) (by omega), if_pos rfl] at d1
      rw [Ms.dec_ctl hi (by decide) (by omega), if_neg (by decide)] at d2
      have c6 := rfSame25 r r ha
      rw [decide_eq_true rfl] at c6
      dsimp only at d1 d2
      clear hr ha e1
      refine CallsC.of Tryz.call5 Tryz.func5 rfl Tryz.ntmps5 rfl fun w0 G0 S0 hs ho => ?_
      exact run trivial
end Go.Proofs.YtgaahjmgneallaaGreat
