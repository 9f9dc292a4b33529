/-
  The contracts of the document's resKind, EncodeRes, SameRes, DecodeRes.
  The contract of the law MsgResponses; responses as arguments, with their bulk.
-/
import Derived.Test.YtgaahjmgneallaaGreatGax
import Derived.Test.YtgaahjmgneallaaGreatGav
import Derived.Test.YtgaahjmgneallaaGreatGaw
set_option linter.unusedSimpArgs false
set_option linter.unusedVariables false
set_option linter.unusedVariables false
namespace Go.Ms
open Go.Vk
theorem numR_w (l : List It) (bad : Bool) (t : UInt8) (lo hi : Int) : wI (numR l bad t lo hi).2.1 ≤ wI l := numI_w l bad t
theorem numR_ok (l : List It) (bad : Bool) (t : UInt8) (lo hi : Int) : okK (numR l bad t lo hi).1 := numI_ok l bad t
theorem rspD_oks (l : List It) (bad : Bool) (h : wI l ≤ 70000) : Oks (rspD l bad) := by
  unfold rspD
  split
  · have h0 := inner_w l bad 100
    have h1 := textI_len (allI (takeI l bad 100).1) (badI (takeI l bad 100).1)
    have h2 := textI_w (allI (takeI l bad 100).1) (badI (takeI l bad 100).1)
    have h3 := attrs_wt false (textI (allI (takeI l bad 100).1) (badI (takeI l bad 100).1)).2.1 (textI (allI (takeI l bad 100).1) (badI (takeI l bad 100).1)).2.2
    exact ⟨okK0, by unfold okK; dsimp only; omega, okK0, by dsimp only; omega, by dsimp only; omega⟩
  · have h2 := (peekI l bad).toNat_lt
    exact ⟨okK0, by unfold okK; dsimp only; omega, (by dsimp only; exact numR_ok _ _ _ _ _), by simp, by simp [sm]⟩
end Go.Ms
set_option maxRecDepth 8000
set_option linter.unusedVariables false
namespace Go.Proofs.YtgaahjmgneallaaGreat
open Go.Vk
attribute [local irreducible] HT HX RegS RegA RegM OpP OpC AltT
attribute [local irreducible] Ber.tagB Ber.lenB Ber.intB Ms.textB Ms.wV Ms.wM Ms.wA Ms.textsB Ms.attrsB Ms.codeB Ms.tagR Ms.restB Ms.rspB Ms.rkB Ms.textI Ms.numI Ms.numR Ms.attrsM Ms.takeI Ms.encR Ms.peekI Ber.allE Ber.fromIntB Ber.nextB
set_option maxHeartbeats 2000000 in
theorem rfResKind25 (k : Int) : CFn Tryz.prog 30 [okI .i64 k] (Is (.bool (Ms.rkB k))) := by
  have h : Ms.rkB k = (decide (k = 1) || decide (k = 4) || decide (k = 5) || decide (k = 7) || decide (k = 9) || decide (k = 11) || decide (k = 13) || decide (k = 15) || decide (k = 24)) := by
    unfold Ms.rkB Ms.isIntZ
    simp [Bool.or_assoc]
  rw [h]
  refine CallsC.of Tryz.call30 Tryz.func30 rfl Tryz.ntmps30 rfl fun w0 G0 S0 hs ho => ?_
  exact run trivial
set_option maxHeartbeats 4000000 in
theorem rfSameRes25 (a b : Ms.Rsp) (ha : Ms.Oks a) : CFn Tryz.prog 12 [TAgg (Ms.cRsp a), TAgg (Ms.cRsp b)] (Is (.bool (decide (a = b)))) := by
  have h4 := ha.attrs
  have c4 := rfSameAttrs25 a.attrs b.attrs (by have := Ms.sm_len Ms.wA_pos a.attrs; omega) (fun x hx => by have := Ms.wA_vals x; have := Ms.sm_mem (f := Ms.wA) hx; omega)
  rw [Ms.rsp_eq]
  clear h4 ha
  refine CallsC.of Tryz.call12 Tryz.func12 rfl Tryz.ntmps12 rfl fun w0 G0 S0 hs ho => ?_
  exact run trivial
set_option maxHeartbeats 8000000 in
theorem rfEncodeRes25 (r : Ms.Rsp) (ha : Ms.Oks r) : CFn Tryz.prog 10 [TAgg (Ms.cRsp r)] (TTup [TBytes (Ms.encR r).1, okI .i64 (Ms.encR r).2]) := by
  have c1 := rfResKind25 r.kind
  have eR : Ms.encR r = if Ms.mayB r = true then (if (Ms.rspB r).length ≤ 65536 then (Ms.rspB r, 0) else ([], 5)) else ([], 1) := by unfold Ms.encR; rfl
  have hd : (r.dn = []) ↔ r.dn.length = 0 := List.length_eq_zero_iff.symm
  have hat0 : (r.attrs = []) ↔ r.attrs.length = 0 := List.length_eq_zero_iff.symm
  cases hm : Ms.mayB r with
  | false =>
    rw [eR, hm]
    simp only [Bool.false_eq_true, reduceIte]
    clear ha eR
    unfold Ms.mayB Ms.numB at hm
    generalize Ms.rkB r.kind = rk at hm c1
    have hm' : r.num < 0 ∨ 2147483647 < r.num ∨ rk = false ∨ r.code < 0 ∨ 127 < r.code ∨ (r.kind = 4 ∧ ¬ r.code = 0) ∨ (¬ r.kind = 4 ∧ ¬ (r.dn = [] ∧ r.attrs.length = 0)) := by
      by_cases h4 : r.kind = 4
      · rw [if_pos h4] at hm
        simp only [Bool.and_eq_false_iff, decide_eq_false_iff_not] at hm
        grind
      · rw [if_neg h4] at hm
        simp only [Bool.and_eq_false_iff, decide_eq_false_iff_not] at hm
        grind
    clear hm hat0
    refine CallsC.of Tryz.call10 Tryz.func10 rfl Tryz.ntmps10 rfl fun w0 G0 S0 hs ho => ?_
    refine run ?_
    and_intros <;> intros <;> exfalso <;> grind
  | true =>
    obtain ⟨m1, m2, m3, m4, m5⟩ := Ms.mayB_of hm
    have m5' : ¬ r.kind = 4 → r.attrs.length = 0 := fun h => hat0.1 (m5 h).2
    have m5'' : ¬ r.kind = 4 → r.dn = [] := fun h => (m5 h).1
    unfold Ms.mostN at m1
    rw [eR, hm, if_pos rfl]
    rw [m2] at c1
    have hn := ha.num
    have hc := ha.code
    have hdn := ha.dn
    have hat := ha.attrs
    have c2 : CFn Tryz.prog 34 [okI .u8 2, okI .i64 r.num] (TBytes (Ber.tagB 2 [Ber.intB r.num])) := rfNum25 2 r.num hn
    have ec : Ms.codeB r.code = Ber.tagB 10 [Ber.intB r.code] := by unfold Ms.codeB; rfl
    have c3 : CFn Tryz.prog 34 [okI .u8 10, okI .i64 r.code] (TBytes (Ms.codeB r.code)) := by
      rw [ec]; exact rfNum25 10 r.code hc
    have l2 := Ms.intB_le' hn
    have l4 := Ms.tag1_le 2 (Ber.intB r.num)
    have l5 := Ms.codeB_le hc
    have l6 := Ms.text0_le
    have er : Ms.rspB r = Ber.tagB 48 [Ber.tagB 2 [Ber.intB r.num], Ms.restB r] := by unfold Ms.rspB; rfl
    have hlast : (Ms.restB r).length ≤ 300000000 → CFn Tryz.prog 31 [okI .u8 48, TSlX 1 (fun ts : List Ty => ts) [[TBytes (Ber.tagB 2 [Ber.intB r.num])], [TBytes (Ms.restB r)]]] (TBytes (Ms.rspB r)) := fun h => by
      rw [er]
      exact CFn.sub (tagD 48 [Ber.tagB 2 [Ber.intB r.num], Ms.restB r] (by rw [Ms.tot_cons, Ms.tot_cons, Ms.tot_nil]; omega) (by simp)) (by exact byQ)
    clear ha hn hc er ec hm eR hd hat0 m5
    by_cases k4 : r.kind = 4
    · have e1 := Ms.restB_4 k4
      have m4' := m4 k4
      have d1 := rfText25 r.dn (by omega)
      have d2 := rfAttrs25 r.attrs (by omega)
      have w1 := Ms.textB_le' r.dn
      have w2 : (Ms.attrsB r.attrs).length ≤ 100000000 := by
        have h1 := Ms.tagB_le 48 (r.attrs.map Ms.attrB)
        have h2 := Ms.tot_map Ms.attrB_le r.attrs
        have h3 : Ms.attrsB r.attrs = Ber.tagB 48 (r.attrs.map Ms.attrB) := by unfold Ms.attrsB; rfl
        rw [h3]; omega
      have w3 := Ms.tagB_le 100 [Ms.textB r.dn, Ms.attrsB r.attrs]
      rw [Ms.tot_cons, Ms.tot_cons, Ms.tot_nil] at w3
      have d3 : CFn Tryz.prog 31 [okI .u8 100, TSlX 1 (fun ts : List Ty => ts) [[TBytes (Ms.textB r.dn)], [TBytes (Ms.attrsB r.attrs)]]] (TBytes (Ms.restB r)) := by
        rw [e1]
        exact CFn.sub (tagD 100 [Ms.textB r.dn, Ms.attrsB r.attrs] (by rw [Ms.tot_cons, Ms.tot_cons, Ms.tot_nil]; omega) (by simp)) (by exact byQ)
      have d4 := hlast (by rw [e1]; omega)
      clear hlast e1 w1 w2 w3 m2 m5' m5'' m4
      by_cases hl : (Ms.rspB r).length ≤ 65536
      · rw [if_pos hl]
        refine CallsC.of Tryz.call10 Tryz.func10 rfl Tryz.ntmps10 rfl fun w0 G0 S0 hs ho => ?_
        exact run trivial
      · rw [if_neg hl]
        refine CallsC.of Tryz.call10 Tryz.func10 rfl Tryz.ntmps10 rfl fun w0 G0 S0 hs ho => ?_
        exact run trivial
    · have d1 := rfText25 [] (by simp)
      have q1 := m5' k4
      have q2 := m5'' k4
      by_cases k24 : r.kind = 24
      · have e1 := Ms.restB_24 k24
        have w1 := Ms.tagB_le 138 [Ms.notice]
        rw [Ms.tot_cons, Ms.tot_nil] at w1
        have w0 : Ms.notice.length = 22 := rfl
        have d2 : CFn Tryz.prog 31 [okI .u8 138, TSlX 1 (fun ts : List Ty => ts) [[TBytes Ms.notice]]] (TBytes (Ber.tagB 138 [Ms.notice])) := CFn.sub (tagD 138 [Ms.notice] (by rw [Ber.tot_one]; omega) (by simp)) (by exact byQ)
        have w3 := Ms.tagB_le 120 [Ms.codeB r.code, Ms.textB [], Ms.textB [], Ber.tagB 138 [Ms.notice]]
        rw [Ms.tot_cons, Ms.tot_cons, Ms.tot_cons, Ms.tot_cons, Ms.tot_nil] at w3
        have d3 : CFn Tryz.prog 31 [okI .u8 120, TSlX 1 (fun ts : List Ty => ts) [[TBytes (Ms.codeB r.code)], [TBytes (Ms.textB [])], [TBytes (Ms.textB [])], [TBytes (Ber.tagB 138 [Ms.notice])]]] (TBytes (Ms.restB r)) := by
          rw [e1]
          exact CFn.sub (tagD 120 [Ms.codeB r.code, Ms.textB [], Ms.textB [], Ber.tagB 138 [Ms.notice]] (by rw [Ms.tot_cons, Ms.tot_cons, Ms.tot_cons, Ms.tot_cons, Ms.tot_nil]; omega) (by simp)) (by exact byQ)
        have d4 := hlast (by rw [e1]; omega)
        clear hlast e1 w1 w3 m2 w0 m5' m5'' m4
        have st := Stop.mk' 9
        by_cases hl : (Ms.rspB r).length ≤ 65536
        · rw [if_pos hl]
          refine CallsC.of Tryz.call10 Tryz.func10 rfl Tryz.ntmps10 rfl fun w0 G0 S0 hs ho => ?_
          refine run ?_
          and_intros
          all_goals intros
          all_goals try (exfalso; grind; done)
          refine HTs.mk ?_
          clear st
          refine HT.region rfl ?_
          refine RegS.fq rfl ⟨_, fun _ => op_faddrC rfl rfl rfl, ?_⟩
          refine RegS.fq rfl ⟨_, fun _ => op_load1 rfl (fun w => rfl), ?_⟩
          refine RegS.fq rfl ⟨_, fun _ => op_call c3 ⟨rfl, rfl, trivial⟩, ?_⟩
          refine RegS.fq rfl ⟨_, fun _ => op_call d1 ⟨rfl, trivial⟩, ?_⟩
          refine RegS.fq rfl ⟨_, fun _ => op_call d1 ⟨rfl, trivial⟩, ?_⟩
          refine RegS.ofC rfl (oc_litBs rfl (by (repeat (first | exact LitOk.nil | apply LitOk.byte rfl | apply LitOk.b8 rfl (by decide) | fail)); done) (by exact rfl) rfl rfl rfl (fun v => rfl)) (fun v => ?_)
          refine RegS.ofC rfl (op_mark 0 rfl rfl rfl rfl (by decide)) (fun v => ?_)
          exact run trivial
        · rw [if_neg hl]
          refine CallsC.of Tryz.call10 Tryz.func10 rfl Tryz.ntmps10 rfl fun w0 G0 S0 hs ho => ?_
          refine run ?_
          and_intros
          all_goals intros
          all_goals try (exfalso; grind; done)
          refine HTs.mk ?_
          clear st
          refine HT.region rfl ?_
          refine RegS.fq rfl ⟨_, fun _ => op_faddrC rfl rfl rfl, ?_⟩
          refine RegS.fq rfl ⟨_, fun _ => op_load1 rfl (fun w => rfl), ?_⟩
          refine RegS.fq rfl ⟨_, fun _ => op_call c3 ⟨rfl, rfl, trivial⟩, ?_⟩
          refine RegS.fq rfl ⟨_, fun _ => op_call d1 ⟨rfl, trivial⟩, ?_⟩
          refine RegS.fq rfl ⟨_, fun _ => op_call d1 ⟨rfl, trivial⟩, ?_⟩
          refine RegS.ofC rfl (oc_litBs rfl (by (repeat (first | exact LitOk.nil | apply LitOk.byte rfl | apply LitOk.b8 rfl (by decide) | fail)); done) (by exact rfl) rfl rfl rfl (fun v => rfl)) (fun v => ?_)
          refine RegS.ofC rfl (op_mark 0 rfl rfl rfl rfl (by decide)) (fun v => ?_)
          exact run trivial
      · have e1 := Ms.restB_x k4 k24
        have w3 := Ms.tagB_le (Ms.tagR r.kind) [Ms.codeB r.code, Ms.textB [], Ms.textB []]
        rw [Ms.tot_cons, Ms.tot_cons, Ms.tot_cons, Ms.tot_nil] at w3
        have et := Ms.tagR_add m2 k4 k24
        have kb : 0 ≤ r.kind ∧ r.kind ≤ 24 := by rcases Ms.rkB_iff.1 m2 with h | h | h | h | h | h | h | h | h <;> omega
        have d3 : CFn Tryz.prog 31 [okI .u8 ((b8 (96 + r.kind)).toNat : Int), TSlX 1 (fun ts : List Ty => ts) [[TBytes (Ms.codeB r.code)], [TBytes (Ms.textB [])], [TBytes (Ms.textB [])]]] (TBytes (Ms.restB r)) := by
          rw [e1, et]
          exact CFn.sub (tagD (Ms.tagR r.kind) [Ms.codeB r.code, Ms.textB [], Ms.textB []] (by rw [Ms.tot_cons, Ms.tot_cons, Ms.tot_cons, Ms.tot_nil]; omega) (by simp)) (by exact byQ)
        have d4 := hlast (by rw [e1]; omega)
        clear hlast e1 w3 m2 et m5' m5'' m4
        by_cases hl : (Ms.rspB r).length ≤ 65536
        · rw [if_pos hl]
          refine CallsC.of Tryz.call10 Tryz.func10 rfl Tryz.ntmps10 rfl fun w0 G0 S0 hs ho => ?_
          refine run ?_
          and_intros <;> intros <;> exfalso <;> grind
        · rw [if_neg hl]
          refine CallsC.of Tryz.call10 Tryz.func10 rfl Tryz.ntmps10 rfl fun w0 G0 S0 hs ho => ?_
          refine run ?_
          and_intros <;> intros <;> exfalso <;> grind
set_option maxHeartbeats 8000000 in
theorem rfDecodeRes25 (b : List UInt8) (hb : b.length ≤ 70000) : CFn Tryz.prog 14 [TBytes b] (TTup [TAgg (Ms.cRsp (Ms.dcD b).1), okI .i64 (Ms.dcD b).2]) := by
  have c1 := refNext b (by omega)
  have hn := Ber.nextB_len b
  unfold Ms.dcD
  generalize Ber.nextB b = n at c1 hn ⊢
  dsimp only
  by_cases he : n.e = 0
  case neg =>
    rw [if_pos he]
    dsimp only [Ms.cRsp, Ms.zP]
    refine CallsC.of Tryz.call14 Tryz.func14 rfl Tryz.ntmps14 rfl fun w0 G0 S0 hs ho => ?_
    exact run trivial
  rw [if_neg (by simpa using he)]
  have c2 : CallsC Tryz.prog 43 [TBytes n.body] [] (fun v => Is (pAt (blk v) 0)) (fun v => [RX25 (blk v) (Ms.allI n.body) 0 (Ms.badI n.body)]) := rdRead n.body (by omega)
  have hw := Ms.allI_w n.body
  have ht : ((n.tag.toNat : Int) = 48) ↔ n.tag = 48 := ⟨fun h => UInt8.toNat_inj.1 (by have : ((48 : UInt8).toNat : Int) = 48 := rfl; omega), fun h => by rw [h]; rfl⟩
  have hr0 : n.rest = [] ↔ n.rest.length = 0 := List.length_eq_zero_iff.symm
  generalize Ms.allI n.body = x0 at c2 hw ⊢
  generalize Ms.badI n.body = b0 at c2 ⊢
  have l0 := Ms.wI_len x0
  obtain ⟨i1, k1, k2, c3⟩ := rdNum x0 0 b0 2 0 Ms.mostN (by omega) (Nat.zero_le _)
  rw [List.drop_zero] at k2 c3
  have w1 := Ms.numR_w x0 b0 2 0 Ms.mostN
  have o1 := Ms.numR_ok x0 b0 2 0 Ms.mostN
  generalize Ms.numR x0 b0 2 0 Ms.mostN = q at c3 k2 w1 o1 ⊢
  have d3 : ∀ g, CallsC Tryz.prog 44 [Is (pAt g 0), okI .u8 2, okI .i64 0, okI .i64 2147483647] [RX25 g x0 0 b0] (fun _ => okI .i64 q.1) (fun _ => [RX25 g x0 i1 q.2.2]) := c3
  have cP := fun g => rdPeek g x0 i1 q.2.2 (by omega) k1
  rw [k2] at cP
  have oR := Ms.oks_n (Ms.rspD_oks q.2.1 q.2.2 (by omega)) o1
  unfold Ms.rspD at oR ⊢
  have hB : ∀ (R : Ms.Rsp) (z : List UInt8 × Int), ((n.tag = 48 ∧ n.rest = [] ∧ z = (b, 0)) ∧ ((n.tag.toNat : Int) = 48 ∧ n.rest.length = 0 ∧ z.1 = b ∧ z.2 = 0)) ∨ (¬ (n.tag = 48 ∧ n.rest = [] ∧ z = (b, 0)) ∧ ¬ ((n.tag.toNat : Int) = 48 ∧ n.rest.length = 0 ∧ z.1 = b ∧ z.2 = 0)) := fun R z => by
    by_cases h : n.tag = 48 ∧ n.rest = [] ∧ z = (b, 0)
    · exact .inl ⟨h, ht.2 h.1, hr0.1 h.2.1, by rw [h.2.2], by rw [h.2.2]⟩
    · exact .inr ⟨h, fun hh => h ⟨ht.1 hh.1, hr0.2 hh.2.1, by rw [← hh.2.2.1, ← hh.2.2.2]⟩⟩
  clear ht hr0 c3 o1
  by_cases hk : Ms.peekI q.2.1 q.2.2 = 100
  · rw [if_pos hk] at oR ⊢
    rw [hk] at cP
    have dP : ∀ g, CallsC Tryz.prog 45 [Is (pAt g 0)] [RX25 g x0 i1 q.2.2] (fun _ => okI .u8 100) (fun _ => [RX25 g x0 i1 q.2.2]) := cP
    clear cP
    obtain ⟨i2, k3, k4, c4⟩ := rdInner x0 i1 q.2.2 100 (by omega) k1
    rw [k2] at k4 c4
    have w2 := Ms.inner_w q.2.1 q.2.2 100
    generalize Ms.pbM false (Ms.takeI q.2.1 q.2.2 100) = pb at c4
    generalize Ms.allI (Ms.takeI q.2.1 q.2.2 100).1 = y0 at c4 oR w2 ⊢
    generalize Ms.badI (Ms.takeI q.2.1 q.2.2 100).1 = bb at c4 oR ⊢
    have d4 : ∀ g, CallsC Tryz.prog 46 [Is (pAt g 0), okI .u8 100] [RX25 g x0 i1 q.2.2] (fun v => Is (pAt (blk v) 0)) (fun v => [RX25 g x0 i2 pb, RX25 (blk v) y0 0 bb]) := c4
    obtain ⟨j1, e1, e2, c5⟩ := rdBody y0 0 bb 4 (by omega) (Nat.zero_le _)
    rw [List.drop_zero] at e2 c5
    have et : Ms.takeI y0 bb 4 = Ms.textI y0 bb := by unfold Ms.textI; rfl
    rw [et] at e2 c5
    have w3 := Ms.textI_w y0 bb
    generalize Ms.textI y0 bb = t at e2 c5 oR w3 ⊢
    have d5 : ∀ g, CallsC Tryz.prog 47 [Is (pAt g 0), okI .u8 4] [RX25 g y0 0 bb] (fun _ => TBytes t.1) (fun _ => [RX25 g y0 j1 t.2.2]) := c5
    obtain ⟨j2, e3, e4, c6⟩ := rdAttrs y0 j1 t.2.2 (by omega) e1
    rw [e2] at e4 c6
    generalize Ms.attrsM false t.2.1 t.2.2 = a at c6 oR ⊢
    clear c4 c5 et e2 e4 k2 k4
    have c7 := rfEncodeRes25 _ oR
    clear oR
    have pl := Plan.mk' 9 [(0,3,[]),(3,3,[]),(5,3,[]),(1,0,[]),(2,3,[]),(4,0,[]),(6,0,[])]
    unfold Ms.withN at c7 ⊢
    dsimp only at c7 ⊢
    have hB := hB default (Ms.encR ⟨q.1, 4, 0, t.1, a.1⟩)
    generalize Ms.encR ⟨q.1, 4, 0, t.1, a.1⟩ = z at c7 hB ⊢
    rcases hB with ⟨h1, h2⟩ | ⟨h1, h2⟩
    · rw [if_pos h1]
      clear h1
      dsimp only [Ms.cRsp] at c7 ⊢
      refine CallsC.of Tryz.call14 Tryz.func14 rfl Tryz.ntmps14 rfl fun w0 G0 S0 hs ho => ?_
      refine run ?_
      and_intros
      all_goals intros
      all_goals try (exfalso; grind; done)
    · rw [if_neg h1]
      clear h1
      dsimp only [Ms.cRsp, Ms.zP] at c7 ⊢
      refine CallsC.of Tryz.call14 Tryz.func14 rfl Tryz.ntmps14 rfl fun w0 G0 S0 hs ho => ?_
      refine run ?_
      and_intros
      all_goals intros
      all_goals try (exfalso; grind; done)
  · rw [if_neg hk] at oR ⊢
    have hk' : ¬ ((Ms.peekI q.2.1 q.2.2).toNat : Int) = 100 := fun h => hk (UInt8.toNat_inj.1 (by have : ((100 : UInt8).toNat : Int) = 100 := rfl; omega))
    clear hk
    generalize Ms.peekI q.2.1 q.2.2 = pk at cP hk' oR ⊢
    have hlt := pk.toNat_lt
    obtain ⟨i2, k3, k4, c4⟩ := rdInner x0 i1 q.2.2 pk (by omega) k1
    rw [k2] at k4 c4
    have w2 := Ms.inner_w q.2.1 q.2.2 pk
    generalize Ms.pbM false (Ms.takeI q.2.1 q.2.2 pk) = pb at c4
    generalize Ms.allI (Ms.takeI q.2.1 q.2.2 pk).1 = y0 at c4 oR w2 ⊢
    generalize Ms.badI (Ms.takeI q.2.1 q.2.2 pk).1 = bb at c4 oR ⊢
    obtain ⟨j1, e1, e2, c5⟩ := rdNum y0 0 bb 10 0 127 (by omega) (Nat.zero_le _)
    rw [List.drop_zero] at e2 c5
    generalize Ms.numR y0 bb 10 0 127 = t at e2 c5 oR ⊢
    have d5 : ∀ g, CallsC Tryz.prog 44 [Is (pAt g 0), okI .u8 10, okI .i64 0, okI .i64 127] [RX25 g y0 0 bb] (fun _ => okI .i64 t.1) (fun _ => [RX25 g y0 j1 t.2.2]) := c5
    clear c5 e2 k2 k4
    have c7 := rfEncodeRes25 _ oR
    clear oR
    unfold Ms.withN at c7 ⊢
    dsimp only at c7 ⊢
    have hB := hB default (Ms.encR ⟨q.1, (pk.toNat : Int) - 96, t.1, [], []⟩)
    generalize Ms.encR ⟨q.1, (pk.toNat : Int) - 96, t.1, [], []⟩ = z at c7 hB ⊢
    rcases hB with ⟨h1, h2⟩ | ⟨h1, h2⟩
    · rw [if_pos h1]
      clear h1
      dsimp only [Ms.cRsp] at c7 ⊢
      refine CallsC.of Tryz.call14 Tryz.func14 rfl Tryz.ntmps14 rfl fun w0 G0 S0 hs ho => ?_
      refine run ?_
      and_intros
      all_goals intros
      all_goals try (exfalso; grind; done)
    · rw [if_neg h1]
      clear h1
      dsimp only [Ms.cRsp, Ms.zP] at c7 ⊢
      refine CallsC.of Tryz.call14 Tryz.func14 rfl Tryz.ntmps14 rfl fun w0 G0 S0 hs ho => ?_
      refine run ?_
      and_intros
      all_goals intros
      all_goals try (exfalso; grind; done)
end Go.Proofs.YtgaahjmgneallaaGreat
set_option linter.unusedVariables false
namespace Go.Ms
open Go.Vk
def gS (r : Rsp) : Nat := r.dn.length + sm hA (r.attrs.take 200)
def greatB (r : Rsp) : Bool := decide (3000 < (gS r : Int))
theorem dcP_oks {b : List UInt8} (h : b.length ≤ 70000) : Oks (dcP b).1 := by
  have hn := Ber.nextB_len b
  unfold dcP
  dsimp only
  split
  · exact oksZ
  split
  · have hw := allI_w (Ber.nextB b).body
    have w1 := numI_w (allI (Ber.nextB b).body) (badI (Ber.nextB b).body) 2
    exact oks_n (rspP_oks _ _ (by omega)) (numI_ok _ _ _)
  · exact oksZ
def bP (r : Rsp) : Nat := r.dn.length + sm bA r.attrs
def Okw (r : Rsp) : Prop := okK r.num ∧ okK r.kind ∧ okK r.code
theorem oks_of {r : Rsp} (h : Okw r) (hb : bP r ≤ 1048576) : Oks r := by
  obtain ⟨z1, z2, z3⟩ := h
  have h4 : sm wA r.attrs ≤ 20 * sm bA r.attrs := sm_mul (fun m => by
    have : sm wV m.vals ≤ 10 * sm blS m.vals := sm_mul (fun a => by unfold wV blS; omega) _
    unfold wA wAt wVs bA; omega) _
  unfold bP at hb
  exact ⟨z1, z2, z3, by omega, by omega⟩
end Go.Ms
set_option maxRecDepth 8000
set_option linter.unusedVariables false
namespace Go.Proofs.YtgaahjmgneallaaGreat
open Go.Vk
attribute [local irreducible] HT HX RegS RegA RegM OpP OpC AltT
attribute [local irreducible] Ber.tagB Ber.lenB Ber.intB Ms.textB Ms.wV Ms.wM Ms.wA Ms.textsB Ms.attrsB Ms.wgS Ms.hA Ms.encR Ms.dcP Ms.dcD Ms.rspB
set_option maxHeartbeats 4000000 in
theorem lwGreat25 (r : Ms.Rsp) (ha : Ms.Oks r) : CFn Tryz.prog 8 [TAgg (Ms.cRsp r)] (Is (.bool (Ms.greatB r))) := by
  have o3 := ha.dn
  have o9 := ha.attrs
  have b2 : ∀ i, Ms.sm Ms.hA (r.attrs.take i) ≤ Ms.sm Ms.wA r.attrs := fun i => Nat.le_trans (Ms.sm_take _ _ _) (Ms.sm_le Ms.hA_le _)
  have k2 := Ms.sm_len Ms.wA_pos r.attrs
  clear ha
  unfold Ms.greatB Ms.gS
  refine CallsC.of Tryz.call8 Tryz.func8 rfl Tryz.ntmps8 rfl fun w0 G0 S0 hs ho => ?_
  refine run ?_
  refine HT.loopX (σ := Nat) [1, 2] (fun i => [(3, okI .i64 ((r.dn.length + Ms.sm Ms.hA (r.attrs.take i) : Nat) : Int)), (4, okI .i64 (i : Int))]) (fun _ => []) (fun i => i ≤ r.attrs.length ∧ i ≤ 200) (fun i => r.attrs.length - i) 0 ⟨Nat.zero_le _, Nat.zero_le _⟩ (run trivial) (by refine run ?_; rfl) ?_
  rintro i ⟨hi, hi2⟩
  by_cases hlt : i < r.attrs.length ∧ i < 200
  · have h2 := Ms.sm_snoc (f := Ms.hA) hlt.1
    have h3 := b2 (i + 1)
    have h4 : Ms.hA (r.attrs.getD i default) = 9 + (r.attrs.getD i default).typ.length + Ms.wgt (r.attrs.getD i default).vals := by unfold Ms.hA; rfl
    have h5 := b2 i
    have h6 := Ms.sm_mem (f := Ms.wA) (En.getD_mem hlt.1)
    have h7 : Ms.wA (r.attrs.getD i default) = (r.attrs.getD i default).typ.length + (Ms.sm Ms.wV (r.attrs.getD i default).vals + 10) + 30 := by unfold Ms.wA Ms.wAt Ms.wVs; rfl
    have c3 := lwWeight (r.attrs.getD i default).vals (by omega)
    clear b2
    refine run ?_
    intro _
    exact HX.roundX (i + 1) ⟨⟨by omega, by omega⟩, by omega⟩ rfl (run trivial) (run trivial)
  · have e := Ms.take_full hi hlt hi2
    rw [← e]
    clear b2
    exact run trivial
set_option maxHeartbeats 8000000 in
theorem lwResponses25 (r s : Ms.Rsp) (b : List UInt8) (hr : Ms.Oks r) (hs : Ms.Oks s) (hb : b.length ≤ 1048576) : CFn Tryz.prog 3 [TAgg (Ms.cRsp r), TAgg (Ms.cRsp s), TBytes b] (Is (.bool true)) := by
  have c0 := lwGreat25 r hr
  have c0' := lwGreat25 s hs
  have c9 := lwKnown25
  cases h : Ms.greatB r with
  | true =>
    rw [h] at c0
    clear hr hs
    refine CallsC.of Tryz.call3 Tryz.func3 rfl Tryz.ntmps3 rfl fun w0 G0 S0 hs ho => ?_
    exact run trivial
  | false =>
  rw [h] at c0
  cases h' : Ms.greatB s with
  | true =>
    rw [h'] at c0'
    clear hr hs
    refine CallsC.of Tryz.call3 Tryz.func3 rfl Tryz.ntmps3 rfl fun w0 G0 S0 hs ho => ?_
    exact run trivial
  | false =>
  rw [h'] at c0'
  by_cases hm : (2000 : Int) < (b.length : Int)
  · clear hr hs
    refine CallsC.of Tryz.call3 Tryz.func3 rfl Tryz.ntmps3 rfl fun w0 G0 S0 hs ho => ?_
    exact run trivial
  have c1 := msEncodeRes r hr
  have c2 := rfEncodeRes25 r hr
  have c3 := msSameRes r s hr
  have c4 := rfSameRes25 r s hr
  have c5 := msDecodeRes b (by omega)
  have c6 := rfDecodeRes25 b (by omega)
  rw [← Ms.dc_eq b] at c6
  have k1 := Ms.dcP_oks (b := b) (by omega)
  generalize Ms.dcP b = z at c5 c6 k1
  have c7 := rfSameRes25 z.1 z.1 k1
  rw [decide_eq_true rfl] at c7
  generalize hsm : decide (r = s) = sm at c3 c4
  by_cases he : (Ms.encR r).2 = 0
  · obtain ⟨m1, m2, m3⟩ := Ms.encR_ok (r := r) (b := (Ms.encR r).1) (by rw [← he])
    have eb := Ms.dcP_back m1 m2
    rw [← m3] at eb
    have c8 := msDecodeRes (Ms.encR r).1 (by rw [m3]; omega)
    rw [eb] at c8
    have ca := rfSameRes25 r r hr
    rw [decide_eq_true rfl] at ca
    have c10 : CFn Tryz.prog 12 [TAgg (Ms.cRsp z.1), TAgg (Ms.cRsp z.1)] (Is (.bool true)) := c7
    dsimp only at c8
    rw [he] at c1 c2
    generalize (Ms.encR r).1 = x at c1 c2 c8
    clear hr hs k1 m1 m2 m3 eb he hsm c7
    refine CallsC.of Tryz.call3 Tryz.func3 rfl Tryz.ntmps3 rfl fun w0 G0 S0 hs ho => ?_
    refine run ?_
    intro _ h
    simp at h
  · generalize Ms.encR r = x at c1 c2 he
    clear hr hs k1 hsm
    refine CallsC.of Tryz.call3 Tryz.func3 rfl Tryz.ntmps3 rfl fun w0 G0 S0 hs ho => ?_
    refine run ?_
    intro _ h
    simp at h
theorem opnRspU (N : Nat) : OpnU N Tryz.prog 25 Ms.cRsp Ms.Okw Ms.bP := by
  have ha := OpnU.slice (opnAttrU25 N) Tryz.underlying23 (by kernel_rfl) (by kernel_rfl)
  rw [show Tryz.prog.cellsOf 64 = 2 by kernel_rfl] at ha
  have H := OpnU.struct (N := N) Tryz.underlying25 (by kernel_rfl) (OpnFU.cons rfl (OpnU.int Tryz.underlying3 (by kernel_rfl)) (OpnFU.cons rfl (OpnU.int Tryz.underlying3 (by kernel_rfl)) (OpnFU.cons rfl (OpnU.int Tryz.underlying22 (by kernel_rfl)) (OpnFU.cons rfl (OpnU.str Tryz.underlying9 (by kernel_rfl)) (OpnFU.cons rfl (ha.less (by omega)) (OpnFU.nil _))))))
  refine (H.less (Nat.le_succ N)).map (fun p => ⟨p.1, p.2.1, p.2.2.1, p.2.2.2.1, p.2.2.2.2.1⟩) (fun a => by kernel_rfl) (fun p => rfl) (fun p h => ⟨wf_okK h.1, wf_okK h.2.1, wf_okK h.2.2.1⟩) (fun p => ?_)
  have e3 : Ms.sm Ms.bA p.2.2.2.2.1 = (p.2.2.2.2.1.map Ms.bA).sum := rfl
  unfold Ms.bP
  dsimp only
  omega
end Go.Proofs.YtgaahjmgneallaaGreat
