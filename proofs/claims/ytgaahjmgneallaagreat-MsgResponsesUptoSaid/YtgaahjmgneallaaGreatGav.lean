/-
  What is encoded is decoded: operations, requests. Nothing here speaks of a program.
  The contract of the program's Decode.
  How heavy a request is: the contracts of the law's weight, filter, heavy.
  Arguments as data, of types that hold themselves: the form's reading, so deep. Nothing here speaks of a program; no conditions.
  Arguments as data, with how heavy they are: for the statements of bounded bulk. Nothing here speaks of a function; no conditions.
  Requests as arguments, with their bulk; the contract of the law MsgEncodes.
-/
import Derived.Test.YtgaahjmgneallaaGreatGau
import Derived.Test.YtgaahjmgneallaaGreatGar
import Derived.Test.YtgaahjmgneallaaGreatGap
import Derived.Test.YtgaahjmgneallaaGreatGam
import Derived.Test.YtgaahjmgneallaaGreatRows
import Derived.Deep.CondSized
import Derived.JoinedCond
set_option linter.unusedSimpArgs false
set_option linter.unusedVariables false
set_option linter.unusedVariables false
namespace Go.Ms
open Go.Vk
open Go.Fi (Fil)
def renIt (r : Req) : List It := [textIt r.dn, textIt r.rdn, (1, boolB (!r.keep))] ++ (if r.above = true then [(128, r.up)] else [])
def opIt (r : Req) : It :=
  if r.kind = 0 then (96, bodyB [(2, Ber.intB 3), textIt r.dn, (128, r.pass)])
  else if r.kind = 3 then (99, bodyB [textIt r.dn, (10, Ber.intB r.scope), (10, Ber.intB 0), (2, Ber.intB r.limit), (2, Ber.intB 0), (1, boolB false), filIt r.fil, textsIt 48 r.want])
  else if r.kind = 6 then (102, bodyB [textIt r.dn, modsIt r.mods])
  else if r.kind = 8 then (104, bodyB [textIt r.dn, attrsIt r.attrs])
  else if r.kind = 10 then (74, r.dn)
  else if r.kind = 12 then (108, bodyB (renIt r))
  else if r.kind = 14 then (110, bodyB [textIt r.dn, (48, bodyB [textIt r.avaT, textIt r.avaV])])
  else if r.kind = 16 then (80, Ber.intB r.which)
  else (66, [])
theorem opB_it (r : Req) : opB r = itB (opIt r) := by
  unfold opB opIt
  split
  · exact tagB_it 96 [(2, Ber.intB 3), textIt r.dn, (128, r.pass)]
  split
  · rw [filB_it, textsB_it]; exact tagB_it 99 [textIt r.dn, (10, Ber.intB r.scope), (10, Ber.intB 0), (2, Ber.intB r.limit), (2, Ber.intB 0), (1, boolB false), filIt r.fil, textsIt 48 r.want]
  split
  · rw [modsB_it]; exact tagB_it 102 [textIt r.dn, modsIt r.mods]
  split
  · rw [attrsB_it]; exact tagB_it 104 [textIt r.dn, attrsIt r.attrs]
  split
  · rfl
  split
  · have e : renB r = (renIt r).map itB := by unfold renB renIt; split <;> rfl
    rw [e, tagB_it]
  split
  · rw [show Ber.tagB 48 [textB r.avaT, textB r.avaV] = itB (48, bodyB [textIt r.avaT, textIt r.avaV]) from tagB_it 48 [textIt r.avaT, textIt r.avaV]]
    exact tagB_it 110 [textIt r.dn, (48, bodyB [textIt r.avaT, textIt r.avaV])]
  split
  · rfl
  · exact tagB_flat 66 []
theorem reqB_it (r : Req) : reqB r = itB (48, bodyB [(2, Ber.intB r.num), opIt r]) := by
  unfold reqB
  rw [opB_it]
  exact tagB_it 48 [(2, Ber.intB r.num), opIt r]
theorem tags_ok {l : List It} (ts : List UInt8) (h : l.map (fun x => x.1) = ts) (h2 : ts.all (fun t => decide (Ber.TagOk t)) = true) : ∀ x ∈ l, Ber.TagOk x.1 := fun x hx => by
  have : x.1 ∈ ts := by rw [← h]; exact List.mem_map_of_mem (f := fun x : It => x.1) hx
  exact of_decide_eq_true (List.all_eq_true.1 h2 _ this)
theorem truth_back (b : Bool) (r : List It) : truthI ((1, boolB b) :: r) false = (b, r, false) := by
  unfold truthI
  rw [take_it]
  cases b <;> rfl
theorem numB_k {n m : Int} (h : numB n m = true) (hm : 0 ≤ m) : okK n ∧ 0 ≤ n ∧ n ≤ 2147483647 := by
  unfold numB at h
  simp only [Bool.and_eq_true, decide_eq_true_eq] at h
  unfold okK
  omega
set_option maxHeartbeats 1000000 in
theorem op_back {r : Req} (hs : soundB r = true) (hl : (opIt r).2.length < 65536) (q : List It) : opP (opIt r :: q) false = ({ r with num := 0 }, q, false) := by
  unfold soundB at hs
  simp only [Bool.and_eq_true, decide_eq_true_eq, Bool.or_eq_true, Bool.not_eq_true', decide_eq_false_iff_not] at hs
  obtain ⟨⟨⟨⟨⟨⟨⟨hk, hn⟩, hu⟩, ⟨⟨⟨h1, h2⟩, h3⟩, h4⟩⟩, h5⟩, h6⟩, h7⟩, h8⟩ := hs
  obtain ⟨num, kind, dn, pass, scope, limit, fil, want, mods, attrs, rdn, keep, above, up, avaT, avaV, which⟩ := r
  have k3 := (numB_k h3 (by decide)).1
  have k4 := (numB_k h4 (by decide)).1
  have ks : okK scope := by unfold okK; dsimp only at h1 h2; omega
  have k0 : okK 0 := okK0
  have kk : okK 3 := by unfold okK; omega
  dsimp only at hk hn h1 h2 h3 h4 h5 h6 h7 h8 k3 k4
  have hm : ∀ m ∈ mods, okK m.kind := fun m hm => by
    have := List.all_eq_true.1 h8.1 m hm
    unfold modOk at this
    simp only [Bool.and_eq_true, decide_eq_true_eq] at this
    unfold okK
    omega
  unfold isKindB isIntZ at hk
  simp only [List.any_cons, List.any_nil, Bool.or_false, Bool.or_eq_true, decide_eq_true_eq] at hk
  unfold unnR zR at hu
  unfold opIt at hl ⊢
  dsimp only at hu hl ⊢
  rcases hk with rfl | rfl | rfl | rfl | rfl | rfl | rfl | rfl | rfl
  · simp at hu
    obtain ⟨rfl, rfl, rfl, rfl, rfl, rfl, rfl, rfl, rfl, rfl, rfl, rfl, rfl, rfl⟩ := hu
    rw [if_pos rfl] at hl ⊢
    dsimp only at hl
    show innM true 96 (opKP 0) _ false = _
    refine inn_back q (tags_ok [2, 4, 128] rfl (by decide)) hl ?_
    show bindP _ false = _
    unfold bindP
    rw [num_back kk]
    dsimp only
    rw [show (decide ((3 : Int) ≠ 3) || false) = false from rfl, text_back]
    dsimp only
    rw [take_it]
    rfl
  · simp at hu
    obtain ⟨rfl, rfl, rfl, rfl, rfl, rfl, rfl, rfl, rfl, rfl, rfl, rfl, rfl, rfl, rfl⟩ := hu
    rfl
  · simp at hu
    obtain ⟨rfl, rfl, rfl, rfl, rfl, rfl, rfl, rfl, rfl, rfl, rfl⟩ := hu
    rw [if_neg (by decide), if_pos rfl] at hl ⊢
    dsimp only at hl
    have hf : Fi.isF fil = true := by rcases h5 with h5 | h5; exact absurd rfl h5; exact h5
    unfold Fi.isF at hf
    rw [Bool.and_eq_true] at hf
    have b1 := body_mem (x := filIt fil) (show filIt fil ∈ _ from by simp) |> fun (h : (filIt fil).2.length + 2 ≤ (bodyB [textIt dn, (10, Ber.intB scope), (10, Ber.intB 0), (2, Ber.intB limit), (2, Ber.intB 0), (1, boolB false), filIt fil, textsIt 48 want]).length) => h
    have b2 := body_mem (x := textsIt 48 want) (show textsIt 48 want ∈ _ from by simp) |> fun (h : (textsIt 48 want).2.length + 2 ≤ (bodyB [textIt dn, (10, Ber.intB scope), (10, Ber.intB 0), (2, Ber.intB limit), (2, Ber.intB 0), (1, boolB false), filIt fil, textsIt 48 want]).length) => h
    show innM true 99 (opKP 3) _ false = _
    refine inn_back q ?_ hl ?_
    · have ht := fil_tag fil ⟨_, hf.1⟩
      intro x hx
      simp only [List.mem_cons, List.not_mem_nil, or_false] at hx
      rcases hx with rfl | rfl | rfl | rfl | rfl | rfl | rfl | rfl
      · show Ber.TagOk 4; decide
      · show Ber.TagOk 10; decide
      · show Ber.TagOk 10; decide
      · show Ber.TagOk 2; decide
      · show Ber.TagOk 2; decide
      · show Ber.TagOk 1; decide
      · exact ht
      · show Ber.TagOk 48; decide
    show srchP _ false = _
    unfold srchP
    rw [text_back]
    dsimp only
    rw [num_back ks]
    dsimp only
    rw [num_back k0]
    dsimp only
    rw [num_back k3]
    dsimp only
    rw [num_back k0]
    dsimp only
    rw [truth_back]
    dsimp only
    rw [fil_back 16 fil 1 rfl hf.1 (by omega)]
    dsimp only
    rw [texts_back [] (by omega)]
    rfl
  · simp at hu
    obtain ⟨rfl, rfl, rfl, rfl, rfl, rfl, rfl, rfl, rfl, rfl, rfl, rfl, rfl, rfl⟩ := hu
    rw [if_neg (by decide), if_neg (by decide), if_pos rfl] at hl ⊢
    dsimp only at hl
    have b1 : (modsIt mods).2.length + 2 ≤ (bodyB [textIt dn, modsIt mods]).length := body_mem (by simp)
    show innM true 102 (opKP 6) _ false = _
    refine inn_back q (tags_ok [4, 48] rfl (by decide)) hl ?_
    show modfM true _ false = _
    unfold modfM
    rw [text_back]
    dsimp only
    rw [mods_back hm [] (by omega)]
    rfl
  · simp at hu
    obtain ⟨rfl, rfl, rfl, rfl, rfl, rfl, rfl, rfl, rfl, rfl, rfl, rfl, rfl, rfl⟩ := hu
    rw [if_neg (by decide), if_neg (by decide), if_neg (by decide), if_pos rfl] at hl ⊢
    dsimp only at hl
    have b1 : (attrsIt attrs).2.length + 2 ≤ (bodyB [textIt dn, attrsIt attrs]).length := body_mem (by simp)
    show innM true 104 (opKP 8) _ false = _
    refine inn_back q (tags_ok [4, 48] rfl (by decide)) hl ?_
    show addM true _ false = _
    unfold addM
    rw [text_back]
    dsimp only
    rw [attrs_back [] (by omega)]
    rfl
  · simp at hu
    obtain ⟨rfl, rfl, rfl, rfl, rfl, rfl, rfl, rfl, rfl, rfl, rfl, rfl, rfl, rfl, rfl⟩ := hu
    rfl
  · simp at hu
    obtain ⟨rfl, rfl, rfl, rfl, rfl, rfl, rfl, rfl, rfl, rfl, rfl⟩ := hu
    rw [if_neg (by decide), if_neg (by decide), if_neg (by decide), if_neg (by decide), if_neg (by decide), if_pos rfl] at hl ⊢
    dsimp only at hl
    show innM true 108 (opKP 12) _ false = _
    cases above with
    | true =>
      refine inn_back q (tags_ok [4, 4, 1, 128] rfl (by decide)) hl ?_
      show renI [textIt dn, textIt rdn, (1, boolB (!keep)), (128, up)] false = _
      unfold renI
      rw [text_back]
      dsimp only
      rw [text_back]
      dsimp only
      rw [truth_back]
      dsimp only
      rw [show isI [((128 : UInt8), up)] false 128 = true from by simp [isI]]
      unfold mayI
      rw [if_pos (by simp [isI]), take_it, Bool.not_not]
      rfl
    | false =>
      have hup : up = [] := by rcases h6 with h6 | h6; exact absurd h6 (by decide); exact h6
      subst hup
      refine inn_back q (tags_ok [4, 4, 1] rfl (by decide)) hl ?_
      show renI [textIt dn, textIt rdn, (1, boolB (!keep))] false = _
      unfold renI
      rw [text_back]
      dsimp only
      rw [text_back]
      dsimp only
      rw [truth_back]
      dsimp only
      rw [Bool.not_not]
      rfl
  · simp at hu
    obtain ⟨rfl, rfl, rfl, rfl, rfl, rfl, rfl, rfl, rfl, rfl, rfl, rfl, rfl⟩ := hu
    rw [if_neg (by decide), if_neg (by decide), if_neg (by decide), if_neg (by decide), if_neg (by decide), if_neg (by decide), if_pos rfl] at hl ⊢
    dsimp only at hl
    have b1 : ((48 : UInt8), bodyB [textIt avaT, textIt avaV]).2.length + 2 ≤ (bodyB [textIt dn, (48, bodyB [textIt avaT, textIt avaV])]).length := body_mem (by simp)
    dsimp only at b1
    show innM true 110 (opKP 14) _ false = _
    refine inn_back q (tags_ok [4, 48] rfl (by decide)) hl ?_
    show cmpM true _ false = _
    unfold cmpM
    rw [text_back]
    dsimp only
    rw [pair_back [] (by omega)]
    rfl
  · simp at hu
    obtain ⟨rfl, rfl, rfl, rfl, rfl, rfl, rfl, rfl, rfl, rfl, rfl, rfl, rfl, rfl⟩ := hu
    show (({ zR with kind := 16, which := (numI (((80 : UInt8), Ber.intB which) :: q) false 80).1 } : Req), (numI (((80 : UInt8), Ber.intB which) :: q) false 80).2) = _
    rw [num_back k4]
    rfl
theorem dec_reqB {r : Req} (h : isR r = true) : decP (reqB r) = (r, 0) := by
  have h0 := h
  unfold isR at h
  rw [Bool.and_eq_true, decide_eq_true_eq] at h
  obtain ⟨hs, hl⟩ := h
  rw [reqB_it] at hl
  have w0 := it_len (48, bodyB [(2, Ber.intB r.num), opIt r])
  have w1 : (opIt r).2.length + 2 ≤ (bodyB [(2, Ber.intB r.num), opIt r]).length := body_mem (by simp)
  dsimp only at w0
  have hn : okK r.num := by
    unfold soundB at hs
    simp only [Bool.and_eq_true] at hs
    exact (numB_k hs.1.1.1.1.1.1.2 (by decide)).1
  have e := Ber.back 48 (by decide) (bodyB [(2, Ber.intB r.num), opIt r]) [] (by omega)
  rw [List.append_nil] at e
  have e2 : Ber.nextB (reqB r) = ⟨48, bodyB [(2, Ber.intB r.num), opIt r], [], 0⟩ := by rw [reqB_it]; exact e
  have ht : ∀ x ∈ [((2 : UInt8), Ber.intB r.num), opIt r], Ber.TagOk x.1 := by
    intro x hx
    rcases List.mem_cons.1 hx with rfl | hx
    · show Ber.TagOk 2; decide
    · rw [List.mem_singleton.1 hx]
      unfold opIt
      split
      · show Ber.TagOk 96; decide
      split
      · show Ber.TagOk 99; decide
      split
      · show Ber.TagOk 102; decide
      split
      · show Ber.TagOk 104; decide
      split
      · show Ber.TagOk 74; decide
      split
      · show Ber.TagOk 108; decide
      split
      · show Ber.TagOk 110; decide
      split
      · show Ber.TagOk 80; decide
      · show Ber.TagOk 66; decide
  obtain ⟨a1, a2⟩ := body_all ht (by omega)
  have er : reqP (bodyB [(2, Ber.intB r.num), opIt r]) = (r, [], false) := by
    unfold reqP
    rw [a1, a2, num_back hn]
    dsimp only
    rw [op_back hs (by omega) []]
    rfl
  unfold decP
  rw [e2]
  dsimp only
  rw [er]
  dsimp only
  rw [h0]
  rfl
end Go.Ms
set_option linter.unusedVariables false
set_option maxRecDepth 8000
set_option linter.unusedVariables false
namespace Go.Proofs.YtgaahjmgneallaaGreat
open Go.Vk
attribute [local irreducible] HT HX RegS RegA RegM OpP OpC AltT
attribute [local irreducible] Ber.tagB Ber.lenB Ber.intB Ber.allE Ber.fromIntB Ber.nextB Ms.midB Ms.kindT Ms.textI Ms.numI Ms.truthI Ms.filtP Ms.textsM Ms.modsM Ms.attrsM Ms.opP Ms.isR
set_option maxHeartbeats 4000000 in
theorem msDecode (b : List UInt8) (hb : b.length ≤ 70000) : CFn Tryz.prog 16 [TBytes b] (TTup [TAgg (Ms.cReq (Ms.decP b).1), okI .i64 (Ms.decP b).2]) := by
  have c1 := nextP b (by omega)
  have hn := Ber.nextB_len b
  unfold Ms.decP
  generalize Ber.nextB b = n at c1 hn ⊢
  dsimp only
  by_cases he : n.e = 0
  case neg =>
    rw [if_pos he]
    dsimp only
    have hz : Ms.cReq Ms.zR = [okI .i64 0, okI .i64 0, Is (str []), Is (str []), okI .i64 0, okI .i64 0, okI .i64 0, Is (str []), Is (str []), TSl 1 Fi.cS [], TSl 5 Fi.cF [], TSl 1 En.cS [], TSl 3 Ms.cMod [], TSl 2 En.cAttr [], Is (str []), Is (.bool false), Is (.bool false), Is (str []), Is (str []), Is (str []), okI .i64 0] := rfl
    rw [hz]
    refine CallsC.of Tryz.call16 Tryz.func16 rfl Tryz.ntmps16 rfl fun w0 G0 S0 hs ho => ?_
    exact run trivial
  rw [if_neg (by simpa using he)]
  have c2 : CallsC Tryz.prog 38 [TBytes n.body] [] (fun v => Is (pAt (blk v) 0)) (fun v => [IX (blk v) (Ms.allI n.body) (Ms.badI n.body)]) := miApart n.body (by omega)
  have hw := Ms.allI_w n.body
  have hr := Ms.reqP_okr (b := n.body) (by omega)
  have hz : Ms.cReq Ms.zR = [okI .i64 0, okI .i64 0, Is (str []), Is (str []), okI .i64 0, okI .i64 0, okI .i64 0, Is (str []), Is (str []), TSl 1 Fi.cS [], TSl 5 Fi.cF [], TSl 1 En.cS [], TSl 3 Ms.cMod [], TSl 2 En.cAttr [], Is (str []), Is (.bool false), Is (.bool false), Is (str []), Is (str []), Is (str []), okI .i64 0] := rfl
  have ht : ((n.tag.toNat : Int) = 48) ↔ n.tag = 48 := ⟨fun h => UInt8.toNat_inj.1 (by have : ((48 : UInt8).toNat : Int) = 48 := rfl; omega), fun h => by rw [h]; rfl⟩
  have hr0 : n.rest = [] ↔ n.rest.length = 0 := List.length_eq_zero_iff.symm
  cases hB : (decide (n.tag ≠ 48) || decide (n.rest ≠ []) || (Ms.reqP n.body).2.2 || decide ((Ms.reqP n.body).2.1 ≠ []) || !Ms.isR (Ms.reqP n.body).1) with
  | true =>
    rw [if_pos rfl]
    dsimp only
    rw [hz]
    simp only [Bool.or_eq_true, decide_eq_true_eq, Bool.not_eq_true'] at hB
    unfold Ms.reqP at hr hB
    dsimp only at hr hB
    generalize Ms.allI n.body = x0 at c2 hw hr hB
    generalize Ms.badI n.body = b0 at c2 hr hB
    have l0 := Ms.wI_len x0
    have c3 : ∀ g, CallsC Tryz.prog 39 [Is (pAt g 0), okI .u8 2] [IX g x0 b0] (fun _ => okI .i64 (Ms.numI x0 b0 2).1) (fun _ => [IX g (Ms.numI x0 b0 2).2.1 (Ms.numI x0 b0 2).2.2]) := fun g => miNum g x0 b0 2 (by omega)
    have w1 := Ms.numI_w x0 b0 2
    generalize Ms.numI x0 b0 2 = q at c3 w1 hr hB
    have c4 : ∀ g g2, CallsC Tryz.prog 49 [Is (pAt g 0), Is (pAt g2 0)] [IX g q.2.1 q.2.2, ownP g2 48 (Ms.zReq q.1 0)] (fun _ => TTup []) (fun _ => [IX g (Ms.opP q.2.1 q.2.2).2.1 (Ms.opP q.2.1 q.2.2).2.2, ownP g2 48 (Ms.cReq (Ms.withNum (Ms.opP q.2.1 q.2.2).1 q.1))]) := fun g g2 => miRequest g g2 q.1 q.2.1 q.2.2 (by omega)
    have w2 := Ms.opP_w q.2.1 q.2.2
    generalize Ms.opP q.2.1 q.2.2 = o at c4 w2 hr hB
    have l1 := Ms.wI_len o.2.1
    have c5 : ∀ g, CallsC Tryz.prog 50 [Is (pAt g 0), okI .u8 160] [IX g o.2.1 o.2.2] (fun _ => Is (.bool (Ms.isI o.2.1 o.2.2 160))) (fun _ => [IX g o.2.1 o.2.2]) := fun g => miIs g o.2.1 o.2.2 160
    have c6 : ∀ g, CallsC Tryz.prog 51 [Is (pAt g 0), okI .u8 160] [IX g o.2.1 o.2.2] (fun _ => TBytes (Ms.takeI o.2.1 o.2.2 160).1) (fun _ => [IX g (Ms.takeI o.2.1 o.2.2 160).2.1 (Ms.takeI o.2.1 o.2.2 160).2.2]) := fun g => miTake g o.2.1 o.2.2 160 (by omega)
    have w3 := Ms.take1_w o.2.1 o.2.2 160
    have c7 := msIs (Ms.withNum o.1 q.1) hr
    generalize Ms.withNum o.1 q.1 = R at c4 c7 hr hB
    clear hr
    have mu := Mut.mk' [8]
    unfold Ms.mayI at hB
    cases hi : Ms.isI o.2.1 o.2.2 160 with
    | true =>
      rw [hi] at c5
      rw [hi, if_pos rfl] at hB
      generalize Ms.takeI o.2.1 o.2.2 160 = c at c6 w3 hB
      have l2 := Ms.wI_len c.2.1
      have hc0 : c.2.1 = [] ↔ c.2.1.length = 0 := List.length_eq_zero_iff.symm
      refine CallsC.of Tryz.call16 Tryz.func16 rfl Tryz.ntmps16 rfl fun w0 G0 S0 hs ho => ?_
      refine run ?_
      and_intros <;> intros <;> exfalso <;> grind
    | false =>
      rw [hi] at c5
      rw [hi, if_neg (by simp)] at hB
      have hc0 : o.2.1 = [] ↔ o.2.1.length = 0 := List.length_eq_zero_iff.symm
      clear c6
      refine CallsC.of Tryz.call16 Tryz.func16 rfl Tryz.ntmps16 rfl fun w0 G0 S0 hs ho => ?_
      refine run ?_
      and_intros <;> intros <;> exfalso <;> grind
  | false =>
    rw [if_neg (by simp)]
    dsimp only
    simp only [Bool.or_eq_false_iff, decide_eq_false_iff_not, Bool.not_eq_false', ne_eq, Decidable.not_not] at hB
    unfold Ms.reqP at hr hB ⊢
    dsimp only at hr hB ⊢
    generalize Ms.allI n.body = x0 at c2 hw hr hB ⊢
    generalize Ms.badI n.body = b0 at c2 hr hB ⊢
    have l0 := Ms.wI_len x0
    have c3 : ∀ g, CallsC Tryz.prog 39 [Is (pAt g 0), okI .u8 2] [IX g x0 b0] (fun _ => okI .i64 (Ms.numI x0 b0 2).1) (fun _ => [IX g (Ms.numI x0 b0 2).2.1 (Ms.numI x0 b0 2).2.2]) := fun g => miNum g x0 b0 2 (by omega)
    have w1 := Ms.numI_w x0 b0 2
    generalize Ms.numI x0 b0 2 = q at c3 w1 hr hB ⊢
    have c4 : ∀ g g2, CallsC Tryz.prog 49 [Is (pAt g 0), Is (pAt g2 0)] [IX g q.2.1 q.2.2, ownP g2 48 (Ms.zReq q.1 0)] (fun _ => TTup []) (fun _ => [IX g (Ms.opP q.2.1 q.2.2).2.1 (Ms.opP q.2.1 q.2.2).2.2, ownP g2 48 (Ms.cReq (Ms.withNum (Ms.opP q.2.1 q.2.2).1 q.1))]) := fun g g2 => miRequest g g2 q.1 q.2.1 q.2.2 (by omega)
    have w2 := Ms.opP_w q.2.1 q.2.2
    generalize Ms.opP q.2.1 q.2.2 = o at c4 w2 hr hB ⊢
    have l1 := Ms.wI_len o.2.1
    have c5 : ∀ g, CallsC Tryz.prog 50 [Is (pAt g 0), okI .u8 160] [IX g o.2.1 o.2.2] (fun _ => Is (.bool (Ms.isI o.2.1 o.2.2 160))) (fun _ => [IX g o.2.1 o.2.2]) := fun g => miIs g o.2.1 o.2.2 160
    have c6 : ∀ g, CallsC Tryz.prog 51 [Is (pAt g 0), okI .u8 160] [IX g o.2.1 o.2.2] (fun _ => TBytes (Ms.takeI o.2.1 o.2.2 160).1) (fun _ => [IX g (Ms.takeI o.2.1 o.2.2 160).2.1 (Ms.takeI o.2.1 o.2.2 160).2.2]) := fun g => miTake g o.2.1 o.2.2 160 (by omega)
    have w3 := Ms.take1_w o.2.1 o.2.2 160
    have c7 := msIs (Ms.withNum o.1 q.1) hr
    generalize Ms.withNum o.1 q.1 = R at c4 c7 hr hB ⊢
    clear hr
    have mu := Mut.mk' [8]
    unfold Ms.mayI at hB
    cases hi : Ms.isI o.2.1 o.2.2 160 with
    | true =>
      rw [hi] at c5
      rw [hi, if_pos rfl] at hB
      generalize Ms.takeI o.2.1 o.2.2 160 = c at c6 w3 hB
      have l2 := Ms.wI_len c.2.1
      have hc0 : c.2.1 = [] ↔ c.2.1.length = 0 := List.length_eq_zero_iff.symm
      refine CallsC.of Tryz.call16 Tryz.func16 rfl Tryz.ntmps16 rfl fun w0 G0 S0 hs ho => ?_
      refine run ?_
      and_intros <;> intros <;> exfalso <;> grind
    | false =>
      rw [hi] at c5
      rw [hi, if_neg (by simp)] at hB
      have hc0 : o.2.1 = [] ↔ o.2.1.length = 0 := List.length_eq_zero_iff.symm
      clear c6
      refine CallsC.of Tryz.call16 Tryz.func16 rfl Tryz.ntmps16 rfl fun w0 G0 S0 hs ho => ?_
      refine run ?_
      and_intros <;> intros <;> exfalso <;> grind
end Go.Proofs.YtgaahjmgneallaaGreat
set_option linter.unusedVariables false
namespace Go.Ms
open Go.Vk
open Go.Fi (Fil)
def wgS (s : List UInt8) : Nat := s.length + 3
def wgt (l : List (List UInt8)) : Nat := sm wgS (l.take 1000)
theorem wgS_le (s : List UInt8) : wgS s ≤ wV s := by unfold wgS wV; omega
theorem sm_le {α : Type} {f g : α → Nat} (h : ∀ a, f a ≤ g a) : ∀ l : List α, sm f l ≤ sm g l
  | [] => Nat.le_refl _
  | a :: r => by
    have h1 := h a
    have h2 := sm_le h r
    unfold sm at *
    simp only [List.map_cons, List.sum_cons]; omega
theorem sm_mul {α : Type} {f g : α → Nat} {c : Nat} (h : ∀ a, f a ≤ c * g a) : ∀ l : List α, sm f l ≤ c * sm g l
  | [] => by simp [sm]
  | a :: r => by
    have h1 := h a
    have h2 := sm_mul h r
    unfold sm at *
    simp only [List.map_cons, List.sum_cons]
    rw [Nat.mul_add]; omega
theorem sm_cons {α : Type} (f : α → Nat) (a : α) (l : List α) : sm f (a :: l) = f a + sm f l := by simp [sm]
theorem wgt_le (l : List (List UInt8)) : wgt l ≤ sm wV l := Nat.le_trans (sm_take _ _ _) (sm_le wgS_le l)
/-- Where the weight is small, all is weighed. -/
theorem wgt_all {l : List (List UInt8)} (h : wgt l < 3000) : wgt l = sm wgS l := by
  unfold wgt
  rw [List.take_of_length_le]
  have h1 := sm_len (f := wgS) (fun a => by unfold wgS; omega) (l.take 1000)
  have h2 : 3 * (l.take 1000).length ≤ sm wgS (l.take 1000) := by
    generalize l.take 1000 = m
    induction m with
    | nil => simp
    | cons a r ih => rw [sm_cons, List.length_cons]; unfold wgS at *; omega
  unfold wgt at h
  rw [List.length_take] at h2
  omega
theorem wgt_wV {l : List (List UInt8)} (h : wgt l < 3000) : sm wV l ≤ 4 * wgt l := by
  rw [wgt_all h]
  exact sm_mul (fun a => by unfold wV wgS; omega) l
mutual
/-- How much is left behind a filter. -/
def hvF : Fil → Int → Int
  | .mk _ t v s ks, n => hvFL ks (n - 9 - (t.length : Int) - (v.length : Int) - (wgt s : Int))
def hvFL : List Fil → Int → Int
  | [], n => n
  | f :: r, n => if 0 ≤ n then hvFL r (hvF f n) else n
end
theorem hvF_mk (k : Int) (t v : List UInt8) (s : List (List UInt8)) (ks : List Fil) (n : Int) : hvF (.mk k t v s ks) n = hvFL ks (n - 9 - (t.length : Int) - (v.length : Int) - (wgt s : Int)) := by conv => lhs; unfold hvF
theorem hvFL_cons (f : Fil) (r : List Fil) (n : Int) : hvFL (f :: r) n = if 0 ≤ n then hvFL r (hvF f n) else n := by conv => lhs; unfold hvFL
theorem hvFL_nil (n : Int) : hvFL [] n = n := by unfold hvFL; rfl
theorem hvFL_neg : ∀ (l : List Fil) {n : Int}, n < 0 → hvFL l n = n
  | [], _, _ => hvFL_nil _
  | s :: r, n, h => by rw [hvFL_cons, if_neg (by omega)]
theorem wFs_cons (f : Fil) (r : List Fil) : wFs (f :: r) = wF f + wFs r := by conv => lhs; unfold wFs
theorem wFs_nil : wFs [] = 0 := by unfold wFs; rfl
mutual
theorem hvF_rng : ∀ (f : Fil) (n : Int), hvF f n ≤ n ∧ n - (wF f : Int) ≤ hvF f n
  | .mk k t v s ks, n => by
    rw [hvF_mk]
    have h1 := hvFL_rng ks (n - 9 - (t.length : Int) - (v.length : Int) - (wgt s : Int))
    have h2 := wgt_le s
    have h3 : wF (.mk k t v s ks) = t.length + v.length + wVs s + 100 + wFs ks := by unfold wF; rfl
    have h4 : wVs s = sm wV s + 10 := rfl
    omega
theorem hvFL_rng : ∀ (l : List Fil) (n : Int), hvFL l n ≤ n ∧ n - (wFs l : Int) ≤ hvFL l n
  | [], n => by rw [hvFL_nil, wFs_nil]; omega
  | f :: r, n => by
    rw [hvFL_cons, wFs_cons]
    have h1 := hvF_rng f n
    have h2 := hvFL_rng r (hvF f n)
    split <;> omega
end
mutual
theorem hvF_bd : ∀ (f : Fil) (n : Int), n ≤ 1500 → 0 ≤ hvF f n → (wF f : Int) + 13 * hvF f n ≤ 13 * n
  | .mk k t v s ks, n, hn, h => by
    rw [hvF_mk] at h ⊢
    have h3 : wF (.mk k t v s ks) = t.length + v.length + wVs s + 100 + wFs ks := by unfold wF; rfl
    have h4 : wVs s = sm wV s + 10 := rfl
    by_cases hm : n - 9 - (t.length : Int) - (v.length : Int) - (wgt s : Int) < 0
    · rw [hvFL_neg ks hm] at h; omega
    · have h5 := wgt_wV (l := s) (by omega)
      have h6 := hvFL_bd ks _ (by omega) h
      omega
theorem hvFL_bd : ∀ (l : List Fil) (n : Int), n ≤ 1500 → 0 ≤ hvFL l n → (wFs l : Int) + 13 * hvFL l n ≤ 13 * n
  | [], n, _, h => by rw [hvFL_nil, wFs_nil]; omega
  | f :: r, n, hn, h => by
    rw [hvFL_cons] at h ⊢
    rw [wFs_cons]
    by_cases h0 : 0 ≤ n
    · rw [if_pos h0] at h ⊢
      have h1 := hvF_rng f n
      by_cases h2 : 0 ≤ hvF f n
      · have h3 := hvF_bd f n hn h2
        have h4 := hvFL_bd r _ (by omega) h
        omega
      · rw [hvFL_neg r (by omega)] at h; omega
    · rw [if_neg h0] at h; omega
end
theorem light_wF {f : Fil} (h : ¬ hvF f 1500 < 0) : wF f ≤ 19500 := by
  have := hvF_bd f 1500 (by omega) (by omega)
  omega
def hM (m : Mod) : Nat := 9 + m.typ.length + wgt m.vals
def hA (a : En.Attr) : Nat := 9 + a.typ.length + wgt a.vals
def hR (r : Req) : Nat := r.dn.length + r.pass.length + r.rdn.length + r.up.length + r.avaT.length + r.avaV.length + wgt r.want + sm hM (r.mods.take 200) + sm hA (r.attrs.take 200)
def heavyB (r : Req) : Bool := decide (2500 < (hR r : Int)) || decide (hvF r.fil 1500 < 0)
theorem hM_le (m : Mod) : hM m ≤ wM m := by
  have := wgt_le m.vals
  unfold hM wM wAt wVs; omega
theorem hA_le (m : En.Attr) : hA m ≤ wA m := by
  have := wgt_le m.vals
  unfold hA wA wAt wVs; omega
/-- What bounds a request, ahead of what is told of its weight. -/
structure Okq (r : Req) : Prop where
  num : okK r.num
  kind : okK r.kind
  scope : okK r.scope
  limit : okK r.limit
  which : okK r.which
  dn : r.dn.length ≤ 2000000
  pass : r.pass.length ≤ 2000000
  rdn : r.rdn.length ≤ 2000000
  up : r.up.length ≤ 2000000
  avaT : r.avaT.length ≤ 2000000
  avaV : r.avaV.length ≤ 2000000
  fil : wF r.fil ≤ 90000000
  want : sm wV r.want ≤ 90000000
  mods : sm wM r.mods ≤ 90000000
  attrs : sm wA r.attrs ≤ 90000000
  kinds : ∀ m ∈ r.mods, okK m.kind
theorem okr_of {r : Req} (h : Okq r) (hh : heavyB r = false) : Okr r := by
  have hf : wF r.fil ≤ 19500 := light_wF (by unfold heavyB at hh; simp only [Bool.or_eq_false_iff, decide_eq_false_iff_not] at hh; exact hh.2)
  exact ⟨h.num, h.kind, h.scope, h.limit, h.which, h.dn, h.pass, h.rdn, h.up, h.avaT, h.avaV, by omega, h.want, h.mods, h.attrs, h.kinds, Nat.le_trans (wt_wF _) (by omega)⟩
theorem take_full {α : Type} {l : List α} {i n : Nat} (h : i ≤ l.length) (h2 : ¬ (i < l.length ∧ i < n)) (h3 : i ≤ n) : l.take i = l.take n := by
  by_cases h4 : i = n
  · rw [h4]
  · rw [List.take_of_length_le (by omega), List.take_of_length_le (by omega)]
end Go.Ms
set_option maxRecDepth 8000
set_option linter.unusedVariables false
namespace Go.Proofs.YtgaahjmgneallaaGreat
open Go.Vk
attribute [local irreducible] HT HX RegS RegA RegM OpP OpC AltT
attribute [local irreducible] Ber.tagB Ber.lenB Ber.intB Ms.textB Ms.wV Ms.wF Ms.filB Ms.piecesB Ms.tagF Fi.isF Fi.wt Ms.wM Ms.wA Ms.textsB Ms.modsB Ms.attrsB Ms.opB Ms.wgS Ms.hM Ms.hA Ms.hvF Ms.hvFL
theorem lwWeight (l : List (List UInt8)) (hl : Ms.sm Ms.wV l ≤ 100000000) : CFn Tryz.prog 25 [TSl 1 En.cS l] (okI .i64 (Ms.wgt l : Int)) := by
  have hlen := Ms.sm_len Ms.wV_pos l
  have hb : ∀ i, Ms.sm Ms.wgS (l.take i) ≤ Ms.sm Ms.wV l := fun i => Nat.le_trans (Ms.sm_take _ _ _) (Ms.sm_le Ms.wgS_le l)
  refine CallsC.of Tryz.call25 Tryz.func25 rfl Tryz.ntmps25 rfl fun w0 G0 S0 hs ho => ?_
  refine run ?_
  refine HT.loopX (σ := Nat) [0, 2] (fun i => [(3, okI .i64 (Ms.sm Ms.wgS (l.take i) : Int)), (4, okI .i64 (i : Int))]) (fun _ => []) (fun i => i ≤ l.length ∧ i ≤ 1000) (fun i => l.length - i) 0 ⟨Nat.zero_le _, Nat.zero_le _⟩ (run trivial) (by refine run ?_; rfl) ?_
  rintro i ⟨hi, hi2⟩
  by_cases hlt : i < l.length ∧ i < 1000
  · have h2 := Ms.sm_snoc (f := Ms.wgS) hlt.1
    have h3 := hb (i + 1)
    have h4 : Ms.wgS (l.getD i default) = (l.getD i default).length + 3 := by unfold Ms.wgS; rfl
    have h5 := hb i
    clear hb
    refine run ?_
    intro _
    exact HX.roundX (i + 1) ⟨⟨by omega, by omega⟩, by omega⟩ rfl (run trivial) (run trivial)
  · have e : Ms.wgt l = Ms.sm Ms.wgS (l.take i) := by unfold Ms.wgt; rw [Ms.take_full hi hlt hi2]
    rw [e]
    clear hb
    exact run trivial
set_option maxHeartbeats 2000000 in
theorem lwFilterS (k : Int) (t v : List UInt8) (s : List (List UInt8)) (ks : List Fi.Fil) (n : Int) (hn : 0 ≤ n ∧ n ≤ 1500) (hw : Ms.wF (.mk k t v s ks) ≤ 90000000) (IH : ∀ f ∈ ks, ∀ n : Int, 0 ≤ n ∧ n ≤ 1500 → CFn Tryz.prog 57 [TAgg (Fi.cF f), okI .i64 n] (okI .i64 (Ms.hvF f n))) : CFn Tryz.prog 57 [TAgg (Fi.cF (.mk k t v s ks)), okI .i64 n] (okI .i64 (Ms.hvF (.mk k t v s ks) n)) := by
  rw [Ms.wF_mk] at hw
  rw [Fi.cF_open, Ms.hvF_mk]
  dsimp only [Fi.Fil.kind, Fi.Fil.typ, Fi.Fil.val, Fi.Fil.subs, Fi.Fil.kids]
  have c1 := lwWeight s (by omega)
  have h1 := Ms.wgt_le s
  have h2 := Ms.sm_len Ms.wF_pos ks
  generalize hz : n - 9 - (t.length : Int) - (v.length : Int) - (Ms.wgt s : Int) = z
  refine CallsC.of Tryz.call57 Tryz.func57 rfl Tryz.ntmps57 rfl fun w0 G0 S0 hs ho => ?_
  refine run ?_
  refine HT.loopX (σ := Nat × Int) [2, 4] (fun t' => [(1, okI .i64 t'.2), (5, okI .i64 (t'.1 : Int))]) (fun _ => []) (fun t' => t'.1 ≤ ks.length ∧ t'.2 ≤ 1500 ∧ Ms.hvFL (ks.drop t'.1) t'.2 = Ms.hvFL ks z) (fun t' => ks.length - t'.1) (0, z) ⟨Nat.zero_le _, by dsimp only; omega, rfl⟩ (run trivial) (run trivial) ?_
  clear hz c1
  rintro ⟨j, m'⟩ ⟨hi, hm, he⟩
  dsimp only at hi hm he ⊢
  by_cases hgo : j < ks.length ∧ 0 ≤ m'
  · obtain ⟨hlt, hm0⟩ := hgo
    have c1 := IH (ks.getD j default) (En.getD_mem hlt) m' ⟨hm0, hm⟩
    rw [Fi.dropF hlt, Ms.hvFL_cons, if_pos hm0] at he
    have hr := Ms.hvF_rng (ks.getD j default) m'
    clear IH
    refine run ?_
    intro _
    exact HX.roundX (j + 1, Ms.hvF (ks.getD j default) m') ⟨⟨by dsimp only; omega, by dsimp only; omega, he⟩, by dsimp only; omega⟩ rfl (run trivial) (run trivial)
  · have hend : Ms.hvFL ks z = m' := by
      rw [← he]
      by_cases hlt : j < ks.length
      · exact Ms.hvFL_neg _ (by omega)
      · rw [List.drop_of_length_le (by omega), Ms.hvFL_nil]
    rw [hend]
    clear IH
    exact run trivial
theorem lwFilterN : ∀ (N : Nat) (f : Fi.Fil), Fi.nodes f ≤ N → Ms.wF f ≤ 90000000 → ∀ n : Int, 0 ≤ n ∧ n ≤ 1500 → CFn Tryz.prog 57 [TAgg (Fi.cF f), okI .i64 n] (okI .i64 (Ms.hvF f n))
  | 0, .mk k t v s ks, h, _, _, _ => by unfold Fi.nodes at h; omega
  | N + 1, .mk k t v s ks, h, hw, n, hn => by
    have e : Fi.nodes (.mk k t v s ks) = 1 + Fi.nodesL ks := by unfold Fi.nodes; rfl
    rw [e] at h
    have hw' := hw
    rw [Ms.wF_mk] at hw'
    exact lwFilterS k t v s ks n hn hw (fun f hf n hn => lwFilterN N f (by have := Fi.kid_lt hf; omega) (by have := Ms.sm_mem (f := Ms.wF) hf; omega) n hn)
set_option maxHeartbeats 4000000 in
theorem lwHeavy25 (r : Ms.Req) (ha : Ms.Okq r) : CFn Tryz.prog 19 [TAgg (Ms.cReq r)] (Is (.bool (Ms.heavyB r))) := by
  have c1 := lwFilterN (Fi.nodes r.fil) r.fil (Nat.le_refl _) ha.fil 1500 (by decide)
  rw [Fi.cF_open r.fil] at c1
  have c2 := lwWeight r.want (by have := ha.want; omega)
  have o1 := ha.dn
  have o2 := ha.pass
  have o3 := ha.rdn
  have o4 := ha.up
  have o5 := ha.avaT
  have o6 := ha.avaV
  have o7 := ha.want
  have o8 := ha.mods
  have o9 := ha.attrs
  have w1 := Ms.wgt_le r.want
  have b1 : ∀ i, Ms.sm Ms.hM (r.mods.take i) ≤ Ms.sm Ms.wM r.mods := fun i => Nat.le_trans (Ms.sm_take _ _ _) (Ms.sm_le Ms.hM_le _)
  have b2 : ∀ i, Ms.sm Ms.hA (r.attrs.take i) ≤ Ms.sm Ms.wA r.attrs := fun i => Nat.le_trans (Ms.sm_take _ _ _) (Ms.sm_le Ms.hA_le _)
  have k1 := Ms.sm_len Ms.wM_pos r.mods
  have k2 := Ms.sm_len Ms.wA_pos r.attrs
  clear ha
  obtain ⟨z, hz⟩ : ∃ z : Nat, z = r.dn.length + r.pass.length + r.rdn.length + r.up.length + r.avaT.length + r.avaV.length + Ms.wgt r.want := ⟨_, rfl⟩
  have hzi : (r.dn.length : Int) + (r.pass.length : Int) + (r.rdn.length : Int) + (r.up.length : Int) + (r.avaT.length : Int) + (r.avaV.length : Int) + (Ms.wgt r.want : Int) = (z : Int) := by omega
  have e : Ms.heavyB r = (decide (2500 < ((z + Ms.sm Ms.hM (r.mods.take 200) + Ms.sm Ms.hA (r.attrs.take 200) : Nat) : Int)) || decide (Ms.hvF r.fil 1500 < 0)) := by unfold Ms.heavyB Ms.hR; rw [hz]
  rw [e]
  have bz : z ≤ 200000000 := by omega
  refine CallsC.of Tryz.call19 Tryz.func19 rfl Tryz.ntmps19 rfl fun w0 G0 S0 hs ho => ?_
  refine run ?_
  refine HT.loopX (σ := Nat) [1, 2] (fun i => [(3, okI .i64 ((z + Ms.sm Ms.hM (r.mods.take i) : Nat) : Int)), (4, okI .i64 (i : Int))]) (fun _ => []) (fun i => i ≤ r.mods.length ∧ i ≤ 200) (fun i => r.mods.length - i) 0 ⟨Nat.zero_le _, Nat.zero_le _⟩ (run trivial) (by refine run ?_; rw [hzi]; rfl) ?_
  clear hz hzi e c2 w1 o7
  rintro i ⟨hi, hi2⟩
  by_cases hlt : i < r.mods.length ∧ i < 200
  · have h2 := Ms.sm_snoc (f := Ms.hM) hlt.1
    have h3 := b1 (i + 1)
    have h4 : Ms.hM (r.mods.getD i default) = 9 + (r.mods.getD i default).typ.length + Ms.wgt (r.mods.getD i default).vals := by unfold Ms.hM; rfl
    have h5 := b1 i
    have h6 := Ms.sm_mem (f := Ms.wM) (En.getD_mem hlt.1)
    have h7 : Ms.wM (r.mods.getD i default) = (r.mods.getD i default).typ.length + (Ms.sm Ms.wV (r.mods.getD i default).vals + 10) + 30 + 40 := by unfold Ms.wM Ms.wAt Ms.wVs; rfl
    have c3 := lwWeight (r.mods.getD i default).vals (by omega)
    clear b1 b2 c1
    refine run ?_
    intro _
    exact HX.roundX (i + 1) ⟨⟨by omega, by omega⟩, by omega⟩ rfl (run trivial) (run trivial)
  · have e := Ms.take_full hi hlt hi2
    rw [← e]
    generalize hy : z + Ms.sm Ms.hM (r.mods.take i) = y
    have by' : y ≤ 300000000 := by have := b1 i; omega
    clear b1 hy bz e
    refine run ?_
    intro _
    refine HT.loopX (σ := Nat) [1, 2] (fun i => [(3, okI .i64 ((y + Ms.sm Ms.hA (r.attrs.take i) : Nat) : Int)), (5, okI .i64 (i : Int))]) (fun _ => []) (fun i => i ≤ r.attrs.length ∧ i ≤ 200) (fun i => r.attrs.length - i) 0 ⟨Nat.zero_le _, Nat.zero_le _⟩ (run trivial) (by refine run ?_; rfl) ?_
    clear hi hi2 hlt
    rintro i ⟨hi, hi2⟩
    by_cases hlt : i < r.attrs.length ∧ i < 200
    · have h2 := Ms.sm_snoc (f := Ms.hA) hlt.1
      have h3 := b2 (i + 1)
      have h4 : Ms.hA (r.attrs.getD i default) = 9 + (r.attrs.getD i default).typ.length + Ms.wgt (r.attrs.getD i default).vals := by unfold Ms.hA; rfl
      have h5 := b2 i
      have h6 := Ms.sm_mem (f := Ms.wA) (En.getD_mem hlt.1)
      have h7 : Ms.wA (r.attrs.getD i default) = (r.attrs.getD i default).typ.length + (Ms.sm Ms.wV (r.attrs.getD i default).vals + 10) + 30 := by unfold Ms.wA Ms.wAt Ms.wVs; rfl
      have c3 := lwWeight (r.attrs.getD i default).vals (by omega)
      clear b2 c1
      refine run ?_
      intro _
      exact HX.roundX (i + 1) ⟨⟨by omega, by omega⟩, by omega⟩ rfl (run trivial) (run trivial)
    · have e := Ms.take_full hi hlt hi2
      rw [← e]
      have b3 := b2 i
      clear b2 e
      exact run trivial
end Go.Proofs.YtgaahjmgneallaaGreat
set_option linter.unusedVariables false
namespace Go.Vk
/-- Opn, of readings no deeper than N. -/
structure OpnN (N : Nat) (P : Program) (t : TypeId) {α : Type} (f : α → List Ty) (ok : α → Prop) : Prop where
  size : ∀ a, (f a).length = P.cellsOf t
  go : ∀ {H : Type} (enc : TypeId × Value → H) (W : World) (fuel : Nat) (cs : List Value) (x : DataW H × List MemPlace), fuel ≤ N → DataW.trod enc P W 0 (fun _ => true) true fuel t cs = some x → (∀ n ∈ x.1.weights P t, n ≤ reachBytes) →
    ∃ a, ok a ∧ cs.length = (f a).length ∧ ∀ (j : Nat) (T : Ty) (u : Value), (f a)[j]? = some T → cs[j]? = some u → T.p (heapImm W) u ∧ u.oneCell' = true
section
variable {P : Program} {t : TypeId} {N : Nat}
theorem Opn.toN {α : Type} {f : α → List Ty} {ok : α → Prop} (h : Opn P t f ok) : OpnN N P t f ok := ⟨h.size, fun enc W fuel cs x _ hx hw => h.go enc W fuel cs x hx hw⟩
theorem OpnN.all {α : Type} {f : α → List Ty} {ok : α → Prop} (h : ∀ N, OpnN N P t f ok) : Opn P t f ok := ⟨(h 0).size, fun enc W fuel cs x hx hw => (h fuel).go enc W fuel cs x (Nat.le_refl _) hx hw⟩
theorem OpnN.map {α β : Type} {f : α → List Ty} {ok : α → Prop} (h : OpnN N P t f ok) (g : α → β) {f' : β → List Ty} {ok' : β → Prop} (hs : ∀ b, (f' b).length = P.cellsOf t) (hf : ∀ a, f' (g a) = f a) (hok : ∀ a, ok a → ok' (g a)) : OpnN N P t f' ok' where
  size := hs
  go := by
    intro H enc W fuel cs x hN hx hw
    obtain ⟨a, h1, h2, h3⟩ := h.go enc W fuel cs x hN hx hw
    refine ⟨g a, hok a h1, by rw [hf]; exact h2, by rw [hf]; exact h3⟩
theorem OpnN.slice {e : TypeId} {α : Type} {f : α → List Ty} {ok : α → Prop} (h : OpnN N P e f ok) (ht : P.underlying t = some (.slice e)) (hs : P.cellsOf t = 1) (hz : Nat.blt 0 (P.cellsOf e) = true) : OpnN (N + 1) P t (cL (P.cellsOf e) f) (fun l => l.length * P.bytesOf e ≤ reachBytes ∧ ∀ a ∈ l, ok a) where
  size := fun _ => hs.symm
  go := by
    intro H enc W fuel cs x hN hx hw
    have hz : 0 < P.cellsOf e := Nat.le_of_ble_eq_true hz
    rcases DataW.trod_slice ht hx with ⟨rfl, rfl⟩ | ⟨a, len, cap, elems, rest, n, rfl, rfl, rfl, _, hlc, hcm, hel, hget, _, _⟩
    · exact ⟨[], ⟨by simp, by simp⟩, rfl, one_at (TSlX.sl (nil_sl _ f _)) rfl⟩
    · have key : ∀ i : Fin len, ∃ y : α, ok y ∧ ∃ cs', W.cells? 0 (a.add (i.val * P.cellsOf e)) (P.cellsOf e) = some cs' ∧ ∀ (j : Nat) (T : Ty) (u : Value), (f y)[j]? = some T → cs'[j]? = some u → T.p (heapImm W) u ∧ u.oneCell' = true := by
        intro i
        have hi := hget i.val i.isLt
        have hlt : i.val < elems.length := by rw [hel]; exact i.isLt
        rw [List.getElem?_eq_getElem hlt, Option.bind_eq_some_iff] at hi
        obtain ⟨cs', h1, h2⟩ := hi
        obtain ⟨y, g1, g2, g3⟩ := h.go enc W n cs' _ (by omega) h2 (fun m hm => hw m (by
          simp only [DataW.weights, ht]
          refine List.mem_cons_of_mem _ (List.mem_append_left _ ?_)
          exact weightsAll_mem (List.mem_map.2 ⟨_, List.getElem_mem hlt, rfl⟩) m hm))
        exact ⟨y, g1, cs', h1, g3⟩
      let l : List α := List.ofFn fun i : Fin len => (key i).choose
      have hll : l.length = len := by simp [l]
      have hl : ∀ (i : Nat) (y : α), l[i]? = some y → ∃ hi : i < len, y = (key ⟨i, hi⟩).choose := by
        intro i y hy
        have hi : i < len := by have := (List.getElem?_eq_some_iff.1 hy).1; omega
        refine ⟨hi, ?_⟩
        simp only [l, List.getElem?_ofFn, hi, dite_true, Option.some.injEq] at hy
        exact hy.symm
      refine ⟨l, ⟨?_, ?_⟩, rfl, one_at ?_ rfl⟩
      · have := hw ((elems.length + rest.length) * P.bytesOf e) (by simp only [DataW.weights, ht, List.length_map]; exact List.mem_cons_self)
        have h2 : l.length * P.bytesOf e ≤ (elems.length + rest.length) * P.bytesOf e := Nat.mul_le_mul_right _ (by omega)
        omega
      · intro y hy
        obtain ⟨i, hi⟩ := List.mem_iff_getElem?.1 hy
        obtain ⟨hlt, rfl⟩ := hl i y hi
        exact (key ⟨i, hlt⟩).choose_spec.1
      · refine ⟨some a, cap, by rw [hll], by omega, hcm, (fun e => by cases e), (fun e => by cases e), fun ad e => ?_⟩
        cases e
        have hspot : 0 < len → a.spot = none := by
          intro hp
          obtain ⟨_, cs', h1, _⟩ := (key ⟨0, hp⟩).choose_spec
          have h2 := (World.cells?_some h1).2.2 0 hz
          have h3 : ∃ u, W.cell? ((a.add (0 * P.cellsOf e)).add 0) = some u := by
            have h4 := (World.cells?_some h1).2.1
            exact ⟨_, h2.trans (List.getElem?_eq_getElem (by omega))⟩
          obtain ⟨u, hu⟩ := h3
          have := World.cell?_spot hu
          simpa [Addr.add] using this
        refine ⟨fun hp => hspot (by omega), fun i y hy => ⟨h.size y, ?_⟩⟩
        obtain ⟨hlt, rfl⟩ := hl i y hy
        obtain ⟨_, cs', h1, h3⟩ := (key ⟨i, hlt⟩).choose_spec
        have hsp := hspot (by omega)
        intro j T hT
        have hj : j < P.cellsOf e := by have := (List.getElem?_eq_some_iff.1 hT).1; rw [h.size] at this; exact this
        have h5 := World.cells?_some h1
        have hcj : cs'[j]? = some cs'[j] := List.getElem?_eq_getElem (by omega)
        refine ⟨cs'[j], ?_, h3 j T _ hT hcj⟩
        have h6 := h5.2.2 j hj
        rw [hcj] at h6
        show W.cell? _ = _
        rw [← h6]
        obtain ⟨b, o, sp⟩ := a
        have hsp : sp = none := hsp
        subst hsp
        rw [add_none, add_none]
/-! ### structs -/
inductive OpnFN (N : Nat) (P : Program) : List Field → Nat → Nat → (α : Type) → (α → List Ty) → (α → Prop) → Prop
  | nil (off : Nat) : OpnFN N P [] off off Unit (fun _ => []) (fun _ => True)
  | cons {fd : Field} {fs : List Field} {off last : Nat} {A B : Type} {fa : A → List Ty} {oka : A → Prop} {fb : B → List Ty} {okb : B → Prop} (ho : fd.offset = off) (h : OpnN N P fd.type fa oka) (r : OpnFN N P fs (off + P.cellsOf fd.type) last B fb okb) : OpnFN N P (fd :: fs) off last (A × B) (fun p => fa p.1 ++ fb p.2) (fun p => oka p.1 ∧ okb p.2)
theorem OpnFN.size {fs : List Field} {off last : Nat} {α : Type} {f : α → List Ty} {ok : α → Prop} (h : OpnFN N P fs off last α f ok) : ∀ a, off + (f a).length = last := by
  induction h with
  | nil off => intro a; simp
  | cons ho h r ih =>
    rintro ⟨a, b⟩
    have h1 := h.size a
    have h2 := ih b
    simp only [List.length_append]; omega
theorem OpnFN.go {H : Type} {enc : TypeId × Value → H} {W : World} {fuel : Nat} {cs : List Value} {fs : List Field} {off last : Nat} {α : Type} {f : α → List Ty} {ok : α → Prop} (h : OpnFN N P fs off last α f ok) (hN : fuel ≤ N) (hlen : cs.length = last) :
    ∀ (xs : List (DataW H × List MemPlace)), xs.length = fs.length → (∀ (i : Nat) (fd : Field), fs[i]? = some fd → DataW.trod enc P W 0 (fun _ => true) true fuel fd.type ((cs.drop fd.offset).take (P.cellsOf fd.type)) = xs[i]?) →
      (∀ n ∈ DataW.weightsEach P (fs.map (·.type)) (xs.map (·.1)), n ≤ reachBytes) →
      ∃ a, ok a ∧ ∀ (j : Nat) (T : Ty) (u : Value), (f a)[j]? = some T → cs[off + j]? = some u → T.p (heapImm W) u ∧ u.oneCell' = true := by
  induction h with
  | nil off => intro xs _ _ _; exact ⟨(), trivial, fun j T u hj => by simp at hj⟩
  | cons ho h r ih =>
    rename_i fd fs off last A B fa oka fb okb
    intro xs hl hx hw
    cases xs with
    | nil => simp at hl
    | cons x xs =>
      have h0 := hx 0 fd rfl
      simp only [List.getElem?_cons_zero] at h0
      obtain ⟨a, a1, a2, a3⟩ := h.go enc W fuel _ x hN h0 (fun n hn => hw n (by simp only [List.map_cons, DataW.weightsEach, List.mem_append]; exact .inl hn))
      obtain ⟨b, b1, b2⟩ := ih hlen xs (by simpa using hl) (fun i fd' hi => by
        have := hx (i + 1) fd' (by simpa using hi)
        simpa using this) (fun n hn => hw n (by simp only [List.map_cons, DataW.weightsEach, List.mem_append]; exact .inr hn))
      refine ⟨(a, b), ⟨a1, b1⟩, fun j T u hj hu => ?_⟩
      dsimp only at hj
      have hsz := h.size a
      by_cases hlt : j < (fa a).length
      · rw [List.getElem?_append_left hlt] at hj
        refine a3 j T u hj ?_
        rw [List.getElem?_take, List.getElem?_drop, if_pos (by omega), ho]
        exact hu
      · rw [List.getElem?_append_right (by omega)] at hj
        refine b2 _ T u hj ?_
        rw [← hu]
        congr 1; omega
theorem OpnN.struct {fs : Array Field} {last : Nat} {α : Type} {f : α → List Ty} {ok : α → Prop} (ht : P.underlying t = some (.struct fs)) (hs : P.cellsOf t = last) (h : OpnFN N P fs.toList 0 last α f ok) : OpnN (N + 1) P t f ok where
  size := fun a => by have := h.size a; omega
  go := by
    intro H enc W fuel cs x hN hx hw
    obtain ⟨xs, n, rfl, rfl, hl, hxl, hf⟩ := DataW.trod_struct ht hx
    obtain ⟨a, a1, a2⟩ := h.go (by omega) (by omega) xs (by simpa using hxl) (fun i fd hi => hf i fd (by simpa using hi)) (fun n hn => hw n (by simp only [DataW.weights, ht]; exact hn))
    have hsz := h.size a
    exact ⟨a, a1, by omega, fun j T u hj hu => a2 j T u hj (by rw [Nat.zero_add]; exact hu)⟩
/-- Nothing reads at depth nought. -/
theorem OpnN.none {α : Type} {f : α → List Ty} {ok : α → Prop} {fs : Array Field} (hs : ∀ a, (f a).length = P.cellsOf t) (ht : P.underlying t = some (.struct fs)) : OpnN 0 P t f ok where
  size := hs
  go := by
    intro H enc W fuel cs x hN hx hw
    obtain ⟨xs, n, h, _⟩ := DataW.trod_struct ht hx
    omega
theorem OpnN.less {α : Type} {f : α → List Ty} {ok : α → Prop} {M : Nat} (h : OpnN M P t f ok) (hNM : N ≤ M) : OpnN N P t f ok := ⟨h.size, fun enc W fuel cs x hN hx hw => h.go enc W fuel cs x (Nat.le_trans hN hNM) hx hw⟩
end
end Go.Vk
set_option linter.unusedVariables false
namespace Go.Proofs.YtgaahjmgneallaaGreat
open Go.Vk
/-- Opn, of readings no deeper than N, with a measure that the bulk bounds. -/
structure OpnU (N : Nat) (P : Program) (t : TypeId) {α : Type} (f : α → List Ty) (ok : α → Prop) (m : α → Nat) : Prop where
  size : ∀ a, (f a).length = P.cellsOf t
  go : ∀ {H : Type} (enc : TypeId × Value → H) (W : World) (fuel : Nat) (cs : List Value) (x : DataW H × List MemPlace), fuel ≤ N → DataW.trod enc P W 0 (fun _ => true) true fuel t cs = some x → (∀ n ∈ x.1.weights P t, n ≤ reachBytes) →
    ∃ a, ok a ∧ m a ≤ Rows.uptoBulk x.1 ∧ cs.length = (f a).length ∧ ∀ (j : Nat) (T : Ty) (u : Value), (f a)[j]? = some T → cs[j]? = some u → T.p (heapImm W) u ∧ u.oneCell' = true
section
variable {P : Program} {t : TypeId} {N : Nat}
theorem bulk_pos {H : Type} (d : DataW H) : 1 ≤ Rows.uptoBulk d := by
  unfold Rows.uptoBulk
  split <;> omega
theorem bulk_sum {H : Type} {α : Type} {m : α → Nat} : ∀ (l : List α) (ds : List (DataW H)), l.length = ds.length → (∀ (i : Nat) (a : α) (d : DataW H), l[i]? = some a → ds[i]? = some d → m a ≤ Rows.uptoBulk d) → (l.map m).sum ≤ Rows.uptoBulkAll ds
  | [], ds, _, _ => by simp
  | a :: l, [], h, _ => by simp at h
  | a :: l, d :: ds, h, hm => by
    have h1 := hm 0 a d rfl rfl
    have h2 := bulk_sum l ds (by simpa using h) (fun i a d hi hd => hm (i + 1) a d (by simpa using hi) (by simpa using hd))
    rw [Rows.uptoBulkAll, List.map_cons, List.sum_cons]
    omega
theorem OpnU.str (ht : P.underlying t = some .string) (hs : P.cellsOf t = 1) : OpnU N P t cS (fun l => l.length ≤ reachBytes) (fun l => l.length + 1) where
  size := fun _ => hs.symm
  go := by
    intro H enc W fuel cs x _ h hw
    obtain ⟨s, rfl, rfl, hm⟩ := DataW.trod_string ht h
    refine ⟨s.data.toList, hw _ (by simp [DataW.weights]), by simp [Rows.uptoBulk], rfl, one_at ?_ rfl⟩
    show Value.string s = .string _
    simp
theorem OpnU.int {k : IntKind} (ht : P.underlying t = some (.int k)) (hs : P.cellsOf t = 1) : OpnU N P t (fun n : Int => [okI k n]) (fun n => (Lit.int k n).wf = true) (fun _ => 1) where
  size := fun _ => hs.symm
  go := by
    intro H enc W fuel cs x _ h hw
    obtain ⟨n, rfl, rfl, hm⟩ := DataW.trod_int ht h
    exact ⟨n, hm, bulk_pos _, rfl, one_at rfl rfl⟩
theorem OpnU.byte (ht : P.underlying t = some (.int .u8)) (hs : P.cellsOf t = 1) : OpnU N P t cB (fun _ => True) (fun _ => 1) where
  size := fun _ => hs.symm
  go := by
    intro H enc W fuel cs x _ h hw
    obtain ⟨n, rfl, rfl, hm⟩ := DataW.trod_int ht h
    exact ⟨b8 n, trivial, bulk_pos _, rfl, one_at (arg_u8 hm) rfl⟩
theorem OpnU.bool (ht : P.underlying t = some .bool) (hs : P.cellsOf t = 1) : OpnU N P t (fun b : Bool => [Is (.bool b)]) (fun _ => True) (fun _ => 1) where
  size := fun _ => hs.symm
  go := by
    intro H enc W fuel cs x _ h hw
    obtain ⟨b, rfl, rfl⟩ := DataW.trod_bool ht h
    exact ⟨b, trivial, bulk_pos _, rfl, one_at rfl rfl⟩
theorem OpnU.map {α β : Type} {f : α → List Ty} {ok : α → Prop} {m : α → Nat} (h : OpnU N P t f ok m) (g : α → β) {f' : β → List Ty} {ok' : β → Prop} {m' : β → Nat} (hs : ∀ b, (f' b).length = P.cellsOf t) (hf : ∀ a, f' (g a) = f a) (hok : ∀ a, ok a → ok' (g a)) (hm : ∀ a, m' (g a) ≤ m a) : OpnU N P t f' ok' m' where
  size := hs
  go := by
    intro H enc W fuel cs x hN hx hw
    obtain ⟨a, h1, h0, h2, h3⟩ := h.go enc W fuel cs x hN hx hw
    refine ⟨g a, hok a h1, Nat.le_trans (hm a) h0, by rw [hf]; exact h2, by rw [hf]; exact h3⟩
theorem OpnU.less {α : Type} {f : α → List Ty} {ok : α → Prop} {m : α → Nat} {M : Nat} (h : OpnU M P t f ok m) (hNM : N ≤ M) : OpnU N P t f ok m := ⟨h.size, fun enc W fuel cs x hN hx hw => h.go enc W fuel cs x (Nat.le_trans hN hNM) hx hw⟩
theorem OpnU.nought {α : Type} {f : α → List Ty} {ok : α → Prop} {m : α → Nat} {fs : Array Field} (hs : ∀ a, (f a).length = P.cellsOf t) (ht : P.underlying t = some (.struct fs)) : OpnU 0 P t f ok m where
  size := hs
  go := by
    intro H enc W fuel cs x hN hx hw
    obtain ⟨xs, n, h, _⟩ := DataW.trod_struct ht hx
    omega
theorem OpnU.slice {e : TypeId} {α : Type} {f : α → List Ty} {ok : α → Prop} {m : α → Nat} (h : OpnU N P e f ok m) (ht : P.underlying t = some (.slice e)) (hs : P.cellsOf t = 1) (hz : Nat.blt 0 (P.cellsOf e) = true) : OpnU (N + 1) P t (cL (P.cellsOf e) f) (fun l => l.length * P.bytesOf e ≤ reachBytes ∧ ∀ a ∈ l, ok a) (fun l => (l.map m).sum + 1) where
  size := fun _ => hs.symm
  go := by
    intro H enc W fuel cs x hN hx hw
    have hz : 0 < P.cellsOf e := Nat.le_of_ble_eq_true hz
    rcases DataW.trod_slice ht hx with ⟨rfl, rfl⟩ | ⟨a, len, cap, elems, rest, n, rfl, rfl, rfl, _, hlc, hcm, hel, hget, _, _⟩
    · exact ⟨[], ⟨by simp, by simp⟩, by simp [Rows.uptoBulk], rfl, one_at (TSlX.sl (nil_sl _ f _)) rfl⟩
    · have key : ∀ i : Fin len, ∃ y : α, ok y ∧ (∀ d, (elems.map (·.1))[i.val]? = some d → m y ≤ Rows.uptoBulk d) ∧ ∃ cs', W.cells? 0 (a.add (i.val * P.cellsOf e)) (P.cellsOf e) = some cs' ∧ ∀ (j : Nat) (T : Ty) (u : Value), (f y)[j]? = some T → cs'[j]? = some u → T.p (heapImm W) u ∧ u.oneCell' = true := by
        intro i
        have hi := hget i.val i.isLt
        have hlt : i.val < elems.length := by rw [hel]; exact i.isLt
        rw [List.getElem?_eq_getElem hlt, Option.bind_eq_some_iff] at hi
        obtain ⟨cs', h1, h2⟩ := hi
        obtain ⟨y, g1, g0, g2, g3⟩ := h.go enc W n cs' _ (by omega) h2 (fun m1 hm => hw m1 (by
          simp only [DataW.weights, ht]
          refine List.mem_cons_of_mem _ (List.mem_append_left _ ?_)
          exact weightsAll_mem (List.mem_map.2 ⟨_, List.getElem_mem hlt, rfl⟩) m1 hm))
        exact ⟨y, g1, fun d hd => by
          rw [List.getElem?_map, List.getElem?_eq_getElem hlt] at hd
          cases hd
          exact g0, cs', h1, g3⟩
      let l : List α := List.ofFn fun i : Fin len => (key i).choose
      have hll : l.length = len := by simp [l]
      have hl : ∀ (i : Nat) (y : α), l[i]? = some y → ∃ hi : i < len, y = (key ⟨i, hi⟩).choose := by
        intro i y hy
        have hi : i < len := by have := (List.getElem?_eq_some_iff.1 hy).1; omega
        refine ⟨hi, ?_⟩
        simp only [l, List.getElem?_ofFn, hi, dite_true, Option.some.injEq] at hy
        exact hy.symm
      refine ⟨l, ⟨?_, ?_⟩, ?_, rfl, one_at ?_ rfl⟩
      · have := hw ((elems.length + rest.length) * P.bytesOf e) (by simp only [DataW.weights, ht, List.length_map]; exact List.mem_cons_self)
        have h2 : l.length * P.bytesOf e ≤ (elems.length + rest.length) * P.bytesOf e := Nat.mul_le_mul_right _ (by omega)
        omega
      · intro y hy
        obtain ⟨i, hi⟩ := List.mem_iff_getElem?.1 hy
        obtain ⟨hlt, rfl⟩ := hl i y hi
        exact (key ⟨i, hlt⟩).choose_spec.1
      · have hb := bulk_sum (m := m) l (elems.map (·.1)) (by rw [hll, List.length_map, hel]) (fun i a d hi hd => by
          obtain ⟨hlt, rfl⟩ := hl i a hi
          exact (key ⟨i, hlt⟩).choose_spec.2.1 d hd)
        simp only [Rows.uptoBulk]; omega
      · refine ⟨some a, cap, by rw [hll], by omega, hcm, (fun e => by cases e), (fun e => by cases e), fun ad e => ?_⟩
        cases e
        have hspot : 0 < len → a.spot = none := by
          intro hp
          obtain ⟨_, _, cs', h1, _⟩ := (key ⟨0, hp⟩).choose_spec
          have h2 := (World.cells?_some h1).2.2 0 hz
          have h3 : ∃ u, W.cell? ((a.add (0 * P.cellsOf e)).add 0) = some u := by
            have h4 := (World.cells?_some h1).2.1
            exact ⟨_, h2.trans (List.getElem?_eq_getElem (by omega))⟩
          obtain ⟨u, hu⟩ := h3
          have := World.cell?_spot hu
          simpa [Addr.add] using this
        refine ⟨fun hp => hspot (by omega), fun i y hy => ⟨h.size y, ?_⟩⟩
        obtain ⟨hlt, rfl⟩ := hl i y hy
        obtain ⟨_, _, cs', h1, h3⟩ := (key ⟨i, hlt⟩).choose_spec
        have hsp := hspot (by omega)
        intro j T hT
        have hj : j < P.cellsOf e := by have := (List.getElem?_eq_some_iff.1 hT).1; rw [h.size] at this; exact this
        have h5 := World.cells?_some h1
        have hcj : cs'[j]? = some cs'[j] := List.getElem?_eq_getElem (by omega)
        refine ⟨cs'[j], ?_, h3 j T _ hT hcj⟩
        have h6 := h5.2.2 j hj
        rw [hcj] at h6
        show W.cell? _ = _
        rw [← h6]
        obtain ⟨b, o, sp⟩ := a
        have hsp : sp = none := hsp
        subst hsp
        rw [add_none, add_none]
/-! ### structs -/
inductive OpnFU (N : Nat) (P : Program) : List Field → Nat → Nat → (α : Type) → (α → List Ty) → (α → Prop) → (α → Nat) → Prop
  | nil (off : Nat) : OpnFU N P [] off off Unit (fun _ => []) (fun _ => True) (fun _ => 0)
  | cons {fd : Field} {fs : List Field} {off last : Nat} {A B : Type} {fa : A → List Ty} {oka : A → Prop} {fb : B → List Ty} {okb : B → Prop} {ma : A → Nat} {mb : B → Nat} (ho : fd.offset = off) (h : OpnU N P fd.type fa oka ma) (r : OpnFU N P fs (off + P.cellsOf fd.type) last B fb okb mb) : OpnFU N P (fd :: fs) off last (A × B) (fun p => fa p.1 ++ fb p.2) (fun p => oka p.1 ∧ okb p.2) (fun p => ma p.1 + mb p.2)
theorem OpnFU.size {fs : List Field} {off last : Nat} {α : Type} {f : α → List Ty} {ok : α → Prop} {m : α → Nat} (h : OpnFU N P fs off last α f ok m) : ∀ a, off + (f a).length = last := by
  induction h with
  | nil off => intro a; simp
  | cons ho h r ih =>
    rintro ⟨a, b⟩
    have h1 := h.size a
    have h2 := ih b
    simp only [List.length_append]; omega
theorem OpnFU.go {H : Type} {enc : TypeId × Value → H} {W : World} {fuel : Nat} {cs : List Value} {fs : List Field} {off last : Nat} {α : Type} {f : α → List Ty} {ok : α → Prop} {m : α → Nat} (h : OpnFU N P fs off last α f ok m) (hN : fuel ≤ N) (hlen : cs.length = last) :
    ∀ (xs : List (DataW H × List MemPlace)), xs.length = fs.length → (∀ (i : Nat) (fd : Field), fs[i]? = some fd → DataW.trod enc P W 0 (fun _ => true) true fuel fd.type ((cs.drop fd.offset).take (P.cellsOf fd.type)) = xs[i]?) →
      (∀ n ∈ DataW.weightsEach P (fs.map (·.type)) (xs.map (·.1)), n ≤ reachBytes) →
      ∃ a, ok a ∧ m a ≤ Rows.uptoBulkAll (xs.map (·.1)) ∧ ∀ (j : Nat) (T : Ty) (u : Value), (f a)[j]? = some T → cs[off + j]? = some u → T.p (heapImm W) u ∧ u.oneCell' = true := by
  induction h with
  | nil off => intro xs _ _ _; exact ⟨(), trivial, Nat.zero_le _, fun j T u hj => by simp at hj⟩
  | cons ho h r ih =>
    rename_i fd fs off last A B fa oka fb okb ma mb
    intro xs hl hx hw
    cases xs with
    | nil => simp at hl
    | cons x xs =>
      have h0 := hx 0 fd rfl
      simp only [List.getElem?_cons_zero] at h0
      obtain ⟨a, a1, a0, a2, a3⟩ := h.go enc W fuel _ x hN h0 (fun n hn => hw n (by simp only [List.map_cons, DataW.weightsEach, List.mem_append]; exact .inl hn))
      obtain ⟨b, b1, b0, b2⟩ := ih hlen xs (by simpa using hl) (fun i fd' hi => by
        have := hx (i + 1) fd' (by simpa using hi)
        simpa using this) (fun n hn => hw n (by simp only [List.map_cons, DataW.weightsEach, List.mem_append]; exact .inr hn))
      refine ⟨(a, b), ⟨a1, b1⟩, by simp only [List.map_cons, Rows.uptoBulkAll]; omega, fun j T u hj hu => ?_⟩
      dsimp only at hj
      have hsz := h.size a
      by_cases hlt : j < (fa a).length
      · rw [List.getElem?_append_left hlt] at hj
        refine a3 j T u hj ?_
        rw [List.getElem?_take, List.getElem?_drop, if_pos (by omega), ho]
        exact hu
      · rw [List.getElem?_append_right (by omega)] at hj
        refine b2 _ T u hj ?_
        rw [← hu]
        congr 1; omega
theorem OpnU.struct {fs : Array Field} {last : Nat} {α : Type} {f : α → List Ty} {ok : α → Prop} {m : α → Nat} (ht : P.underlying t = some (.struct fs)) (hs : P.cellsOf t = last) (h : OpnFU N P fs.toList 0 last α f ok m) : OpnU (N + 1) P t f ok (fun a => m a + 1) where
  size := fun a => by have := h.size a; omega
  go := by
    intro H enc W fuel cs x hN hx hw
    obtain ⟨xs, n, rfl, rfl, hl, hxl, hf⟩ := DataW.trod_struct ht hx
    obtain ⟨a, a1, a0, a2⟩ := h.go (by omega) (by omega) xs (by simpa using hxl) (fun i fd hi => hf i fd (by simpa using hi)) (fun n hn => hw n (by simp only [DataW.weights, ht]; exact hn))
    have hsz := h.size a
    exact ⟨a, a1, by simp only [Rows.uptoBulk]; omega, by omega, fun j T u hj hu => a2 j T u hj (by rw [Nat.zero_add]; exact hu)⟩
/-! ### arguments -/
section
variable {H : Type} {enc : TypeId × Value → H} {W : World} {v : Value} {d : DataW H} {ps : List MemPlace} {α : Type}
theorem OpnU.one {T : α → Ty} {ok : α → Prop} {m : α → Nat} (h : ∀ N, OpnU N P t (fun a => [T a]) ok m) (hc : v.cells = #[v]) (hd : DataW.Trod enc P W 0 (fun _ => true) true t v d ps) (hw : ∀ n ∈ d.weights P t, n ≤ reachBytes) : ∃ a, (ok a ∧ m a ≤ Rows.uptoBulk d) ∧ (T a).p (heapImm W) v := by
  obtain ⟨fuel, hf⟩ := hd
  obtain ⟨a, h1, h0, h2, h3⟩ := (h fuel).go enc W fuel _ _ (Nat.le_refl _) hf hw
  rw [hc] at h3
  exact ⟨a, ⟨h1, h0⟩, (h3 0 (T a) v rfl rfl).1⟩
theorem OpnU.sl {e : TypeId} {sz : Nat} {f : α → List Ty} {ok : List α → Prop} {m : List α → Nat} {r : Reach} {b0 : Nat} (h : ∀ N, OpnU N P t (cL sz f) ok m) (ht : P.underlying t = some (.slice e)) (hval : Value.okWide P W r b0 t v) (hd : DataW.Trod enc P W 0 (fun _ => true) true t v d ps) (hw : ∀ n ∈ d.weights P t, n ≤ reachBytes) : ∃ l, (ok l ∧ m l ≤ Rows.uptoBulk d) ∧ (TSl sz f l).p (heapImm W) v := by
  obtain ⟨a, len, cap, rfl⟩ := WideShapes.okWide_slice ht hval
  exact OpnU.one (T := fun l => TSl sz f l) h rfl hd hw
theorem OpnU.st {ok : List UInt8 → Prop} {m : List UInt8 → Nat} {r : Reach} {b0 : Nat} (h : ∀ N, OpnU N P t cS ok m) (ht : P.underlying t = some .string) (hval : Value.okWide P W r b0 t v) (hd : DataW.Trod enc P W 0 (fun _ => true) true t v d ps) (hw : ∀ n ∈ d.weights P t, n ≤ reachBytes) : ∃ l, (ok l ∧ m l ≤ Rows.uptoBulk d) ∧ (Is (Vk.str l)).p (heapImm W) v := by
  obtain ⟨s, rfl⟩ := WideShapes.okWide_string ht hval
  exact OpnU.one (T := fun l => Is (Vk.str l)) h rfl hd hw
theorem OpnU.ag {fs : Array Field} {f : α → List Ty} {ok : α → Prop} {m : α → Nat} {r : Reach} {b0 : Nat} (h : ∀ N, OpnU N P t f ok m) (ht : P.underlying t = some (.struct fs)) (hval : Value.okWide P W r b0 t v) (hd : DataW.Trod enc P W 0 (fun _ => true) true t v d ps) (hw : ∀ n ∈ d.weights P t, n ≤ reachBytes) : ∃ a, (ok a ∧ m a ≤ Rows.uptoBulk d) ∧ (TAgg (f a)).p (heapImm W) v := by
  obtain ⟨cs, rfl, hcs⟩ := WideShapes.okWide_struct ht hval
  obtain ⟨fuel, hf⟩ := hd
  obtain ⟨a, h1, h0, h2, h3⟩ := (h fuel).go enc W fuel _ _ (Nat.le_refl _) hf hw
  exact ⟨a, ⟨h1, h0⟩, cs.toList, by simp, by simpa [Value.cells] using h2, fun j T u hj hu => h3 j T u hj (by simpa [Value.cells] using hu)⟩
end
theorem bulk_at {H : Type} {ds : List (DataW H)} (h : Rows.uptoSmall H ds = true) {j : Nat} {d : DataW H} (hd : ds[j]? = some d) : Rows.uptoBulk d ≤ 1048576 := by
  have h0 : Rows.uptoBulkAll ds ≤ 1048576 := of_decide_eq_true h
  have key : ∀ (ds : List (DataW H)) (j : Nat), ds[j]? = some d → Rows.uptoBulk d ≤ Rows.uptoBulkAll ds := by
    intro ds
    induction ds with
    | nil => intro j hj; simp at hj
    | cons x r ih =>
      intro j hj
      rw [Rows.uptoBulkAll]
      cases j with
      | zero => simp at hj; subst hj; omega
      | succ j => have := ih j (by simpa using hj); omega
  exact Nat.le_trans (key ds j hd) h0
end
end Go.Proofs.YtgaahjmgneallaaGreat
set_option linter.unusedVariables false
namespace Go.Ms
open Go.Vk
open Go.Fi (Fil)
def blS (s : List UInt8) : Nat := s.length + 1
def bM (m : Mod) : Nat := m.typ.length + sm blS m.vals + 4
def bA (a : En.Attr) : Nat := a.typ.length + sm blS a.vals + 3
mutual
/-- How much a filter holds. -/
def bF : Fil → Nat
  | .mk _ t v s ks => t.length + v.length + sm blS s + bFs ks + 6
def bFs : List Fil → Nat
  | [] => 0
  | f :: r => bF f + bFs r
end
theorem bFs_sm : ∀ l : List Fil, bFs l = sm bF l
  | [] => by unfold bFs; rfl
  | f :: r => by rw [sm_cons, ← bFs_sm r]; conv => lhs; unfold bFs
mutual
theorem wF_bF : ∀ f : Fil, wF f ≤ 20 * bF f
  | .mk k t v s ks => by
    have h1 := wFs_bFs ks
    have h2 : sm wV s ≤ 10 * sm blS s := sm_mul (fun a => by unfold wV blS; omega) s
    unfold wF bF wVs
    omega
theorem wFs_bFs : ∀ l : List Fil, wFs l ≤ 20 * bFs l
  | [] => by unfold wFs; omega
  | f :: r => by
    have h1 := wF_bF f
    have h2 := wFs_bFs r
    unfold wFs bFs; omega
end
def bR (r : Req) : Nat := r.dn.length + r.pass.length + bF r.fil + sm blS r.want + sm bM r.mods + sm bA r.attrs + r.rdn.length + r.up.length + r.avaT.length + r.avaV.length
/-- What the numbers of a request are. -/
def Okz (r : Req) : Prop := okK r.num ∧ okK r.kind ∧ okK r.scope ∧ okK r.limit ∧ okK r.which ∧ ∀ m ∈ r.mods, okK m.kind
theorem okq_of {r : Req} (h : Okz r) (hb : bR r ≤ 1048576) : Okq r := by
  obtain ⟨z1, z2, z3, z4, z5, z6⟩ := h
  have h1 := wF_bF r.fil
  have h2 : sm wV r.want ≤ 10 * sm blS r.want := sm_mul (fun a => by unfold wV blS; omega) _
  have h3 : sm wM r.mods ≤ 20 * sm bM r.mods := sm_mul (fun m => by
    have : sm wV m.vals ≤ 10 * sm blS m.vals := sm_mul (fun a => by unfold wV blS; omega) _
    unfold wM wAt wVs bM; omega) _
  have h4 : sm wA r.attrs ≤ 20 * sm bA r.attrs := sm_mul (fun m => by
    have : sm wV m.vals ≤ 10 * sm blS m.vals := sm_mul (fun a => by unfold wV blS; omega) _
    unfold wA wAt wVs bA; omega) _
  unfold bR at hb
  exact ⟨z1, z2, z3, z4, z5, by omega, by omega, by omega, by omega, by omega, by omega, by omega, by omega, by omega, by omega, z6⟩
theorem sum_sm {α : Type} (f : α → Nat) (l : List α) : (l.map f).sum = sm f l := rfl
end Go.Ms
set_option maxRecDepth 8000
set_option linter.unusedVariables false
namespace Go.Proofs.YtgaahjmgneallaaGreat
open Go.Vk
attribute [local irreducible] HT HX RegS RegA RegM OpP OpC AltT
attribute [local irreducible] Ber.tagB Ber.lenB Ber.intB Ms.textB Ms.wV Ms.wF Ms.filB Ms.piecesB Ms.tagF Fi.isF Fi.wt Ms.wM Ms.wA Ms.textsB Ms.modsB Ms.attrsB Ms.opB Ms.isR Ms.reqB Ms.heavyB
theorem cF_size25 (f : Fi.Fil) : (Fi.cF f).length = 5 := rfl
theorem wf_okK {n : Int} (h : (Lit.int .i64 n).wf = true) : Ms.okK n := wf_i64 h
theorem opnFilU : ∀ N : Nat, OpnU N Tryz.prog 43 Fi.cF (fun _ => True) Ms.bF
  | 0 => OpnU.nought (fun a => by rw [cF_size25]; kernel_rfl) Tryz.underlying43
  | N + 1 => by
    have IH := opnFilU N
    have hsub := OpnU.slice (OpnU.str (N := N) (P := Tryz.prog) Tryz.underlying9 (by kernel_rfl)) Tryz.underlying40 (by kernel_rfl) (by kernel_rfl)
    have hkid := OpnU.slice IH Tryz.underlying41 (by kernel_rfl) (by kernel_rfl)
    rw [show Tryz.prog.cellsOf 43 = 5 by kernel_rfl] at hkid
    rw [show Tryz.prog.cellsOf 9 = 1 by kernel_rfl] at hsub
    have H := OpnU.struct (N := N) Tryz.underlying43 (by kernel_rfl) (OpnFU.cons rfl (OpnU.int Tryz.underlying3 (by kernel_rfl)) (OpnFU.cons rfl (OpnU.str Tryz.underlying9 (by kernel_rfl)) (OpnFU.cons rfl (OpnU.str Tryz.underlying9 (by kernel_rfl)) (OpnFU.cons rfl (hsub.less (Nat.le_succ N)) (OpnFU.cons rfl (hkid.less (Nat.le_succ N)) (OpnFU.nil _))))))
    refine H.map (fun p => .mk p.1 p.2.1 p.2.2.1 p.2.2.2.1 p.2.2.2.2.1) (fun a => by rw [cF_size25]; kernel_rfl) (fun p => ?_) (fun p h => trivial) (fun p => ?_)
    · have e : ∀ (k : Int) (t v : List UInt8) (s : List (List UInt8)) (ks : List Fi.Fil), Fi.cF (.mk k t v s ks) = [okI .i64 k, Is (str t), Is (str v), TSl 1 Fi.cS s, TSl 5 Fi.cFil ks] := fun _ _ _ _ _ => rfl
      rw [e, Fi.cF_eq]; rfl
    · unfold Ms.bF
      rw [Ms.bFs_sm]
      have e : Ms.sm Ms.blS p.2.2.2.1 = (p.2.2.2.1.map (fun l => l.length + 1)).sum := rfl
      have e2 : Ms.sm Ms.bF p.2.2.2.2.1 = (p.2.2.2.2.1.map Ms.bF).sum := rfl
      omega
theorem opnModU (N : Nat) : OpnU (N + 2) Tryz.prog 103 Ms.cMod (fun m => Ms.okK m.kind) Ms.bM := by
  have h := OpnU.slice (OpnU.str (N := N) (P := Tryz.prog) Tryz.underlying9 (by kernel_rfl)) Tryz.underlying40 (by kernel_rfl) (by kernel_rfl)
  rw [show Tryz.prog.cellsOf 9 = 1 by kernel_rfl] at h
  exact (OpnU.struct (N := N + 1) Tryz.underlying103 (by kernel_rfl) (OpnFU.cons rfl (OpnU.int Tryz.underlying3 (by kernel_rfl)) (OpnFU.cons rfl (OpnU.str Tryz.underlying9 (by kernel_rfl)) (OpnFU.cons rfl h (OpnFU.nil _))))).map
    (fun p => ⟨p.1, p.2.1, p.2.2.1⟩) (fun a => by kernel_rfl) (fun p => rfl) (fun p h => wf_okK h.1) (fun p => by
      have e : Ms.sm Ms.blS p.2.2.1 = (p.2.2.1.map (fun l => l.length + 1)).sum := rfl
      unfold Ms.bM
      dsimp only
      omega)
theorem opnAttrU25 (N : Nat) : OpnU (N + 2) Tryz.prog 64 En.cAttr (fun _ => True) Ms.bA := by
  have h := OpnU.slice (OpnU.str (N := N) (P := Tryz.prog) Tryz.underlying9 (by kernel_rfl)) Tryz.underlying40 (by kernel_rfl) (by kernel_rfl)
  rw [show Tryz.prog.cellsOf 9 = 1 by kernel_rfl] at h
  exact (OpnU.struct (N := N + 1) Tryz.underlying64 (by kernel_rfl) (OpnFU.cons rfl (OpnU.str Tryz.underlying9 (by kernel_rfl)) (OpnFU.cons rfl h (OpnFU.nil _)))).map
    (fun p => ⟨p.1, p.2.1⟩) (fun a => by kernel_rfl) (fun p => rfl) (fun p h => trivial) (fun p => by
      have e : Ms.sm Ms.blS p.2.1 = (p.2.1.map (fun l => l.length + 1)).sum := rfl
      unfold Ms.bA
      dsimp only
      omega)
theorem opnReqU (N : Nat) : OpnU N Tryz.prog 48 Ms.cReq Ms.Okz Ms.bR := by
  have hw := OpnU.slice (OpnU.str (N := N) (P := Tryz.prog) Tryz.underlying9 (by kernel_rfl)) Tryz.underlying40 (by kernel_rfl) (by kernel_rfl)
  have hm := OpnU.slice (opnModU N) Tryz.underlying44 (by kernel_rfl) (by kernel_rfl)
  have ha := OpnU.slice (opnAttrU25 N) Tryz.underlying23 (by kernel_rfl) (by kernel_rfl)
  have hf := opnFilU N
  have hv := OpnU.struct (N := N) Tryz.underlying46 (by kernel_rfl) (OpnFU.cons rfl (OpnU.str Tryz.underlying9 (by kernel_rfl)) (OpnFU.cons rfl (OpnU.str Tryz.underlying9 (by kernel_rfl)) (OpnFU.nil _)))
  rw [show Tryz.prog.cellsOf 9 = 1 by kernel_rfl] at hw
  rw [show Tryz.prog.cellsOf 103 = 3 by kernel_rfl] at hm
  rw [show Tryz.prog.cellsOf 64 = 2 by kernel_rfl] at ha
  have H := OpnU.struct (N := N) Tryz.underlying48 (by kernel_rfl) (OpnFU.cons rfl (OpnU.int Tryz.underlying3 (by kernel_rfl)) (OpnFU.cons rfl (OpnU.int Tryz.underlying3 (by kernel_rfl)) (OpnFU.cons rfl (OpnU.str Tryz.underlying9 (by kernel_rfl)) (OpnFU.cons rfl (OpnU.str Tryz.underlying9 (by kernel_rfl)) (OpnFU.cons rfl (OpnU.int Tryz.underlying3 (by kernel_rfl)) (OpnFU.cons rfl (OpnU.int Tryz.underlying3 (by kernel_rfl)) (OpnFU.cons rfl hf (OpnFU.cons rfl (hw.less (by omega)) (OpnFU.cons rfl (hm.less (by omega)) (OpnFU.cons rfl (ha.less (by omega)) (OpnFU.cons rfl (OpnU.str Tryz.underlying9 (by kernel_rfl)) (OpnFU.cons rfl (OpnU.bool Tryz.underlying4 (by kernel_rfl)) (OpnFU.cons rfl (OpnU.bool Tryz.underlying4 (by kernel_rfl)) (OpnFU.cons rfl (OpnU.str Tryz.underlying9 (by kernel_rfl)) (OpnFU.cons rfl (hv.less (by omega)) (OpnFU.cons rfl (OpnU.int Tryz.underlying3 (by kernel_rfl)) (OpnFU.nil _)))))))))))))))))
  refine (H.less (Nat.le_succ N)).map (fun p => ⟨p.1, p.2.1, p.2.2.1, p.2.2.2.1, p.2.2.2.2.1, p.2.2.2.2.2.1, p.2.2.2.2.2.2.1, p.2.2.2.2.2.2.2.1, p.2.2.2.2.2.2.2.2.1, p.2.2.2.2.2.2.2.2.2.1, p.2.2.2.2.2.2.2.2.2.2.1, p.2.2.2.2.2.2.2.2.2.2.2.1, p.2.2.2.2.2.2.2.2.2.2.2.2.1, p.2.2.2.2.2.2.2.2.2.2.2.2.2.1, p.2.2.2.2.2.2.2.2.2.2.2.2.2.2.1.1, p.2.2.2.2.2.2.2.2.2.2.2.2.2.2.1.2.1, p.2.2.2.2.2.2.2.2.2.2.2.2.2.2.2.1⟩) (fun a => by kernel_rfl) (fun p => ?_) (fun p h => ?_) (fun p => ?_)
  · obtain ⟨a1, a2, a3, a4, a5, a6, f, a8, a9, b1, b2, b3, b4, b5, ⟨b6, b7, _⟩, b8, _⟩ := p
    obtain ⟨k, t, v, s, ks⟩ := f
    have e : ∀ (k : Int) (t v : List UInt8) (s : List (List UInt8)) (ks : List Fi.Fil), Fi.cF (.mk k t v s ks) = [okI .i64 k, Is (str t), Is (str v), TSl 1 Fi.cS s, TSl 5 Fi.cFil ks] := fun _ _ _ _ _ => rfl
    dsimp only
    rw [e, Fi.cF_eq]
    rfl
  · obtain ⟨a1, a2, a3, a4, a5, a6, f, a8, a9, b1, b2, b3, b4, b5, ⟨b6, b7, _⟩, b8, _⟩ := p
    dsimp only at h
    exact ⟨wf_okK h.1, wf_okK h.2.1, wf_okK h.2.2.2.2.1, wf_okK h.2.2.2.2.2.1, wf_okK h.2.2.2.2.2.2.2.2.2.2.2.2.2.2.2.1, h.2.2.2.2.2.2.2.2.1.2⟩
  · obtain ⟨a1, a2, a3, a4, a5, a6, f, a8, a9, b1, b2, b3, b4, b5, ⟨b6, b7, _⟩, b8, _⟩ := p
    have e1 : Ms.sm Ms.blS a8 = (a8.map (fun l => l.length + 1)).sum := rfl
    have e2 : Ms.sm Ms.bM a9 = (a9.map Ms.bM).sum := rfl
    have e3 : Ms.sm Ms.bA b1 = (b1.map Ms.bA).sum := rfl
    unfold Ms.bR
    dsimp only
    omega
end Go.Proofs.YtgaahjmgneallaaGreat
