/-
  The contracts of the document's mods and filter.
  The contracts of the document's op and bytes. Printed by mkma.py.
  The contracts of whether a filter may be: the document's.
  The contracts of the document's Same.
-/
import Derived.Test.YtkpghepeagafoaaGreatJaq
import Derived.Test.YtkpghepeagafoaaGreatJal
import Derived.Test.YtkpghepeagafoaaGreatJan
import Derived.Test.YtkpghepeagafoaaGreatJam
import Derived.Test.YtkpghepeagafoaaGreatJao
set_option linter.unusedSimpArgs false
set_option linter.unusedVariables false
set_option linter.unusedVariables false
namespace Go.Ms
open Go.Vk
theorem tagF_0 : tagF 0 = 160 := by decide +kernel
theorem tagF_1 : tagF 1 = 161 := by decide +kernel
theorem tagF_2 : tagF 2 = 162 := by decide +kernel
theorem tagF_3 : tagF 3 = 163 := by decide +kernel
theorem tagF_4 : tagF 4 = 164 := by decide +kernel
theorem tagF_5 : tagF 5 = 165 := by decide +kernel
theorem tagF_6 : tagF 6 = 166 := by decide +kernel
theorem pcs_flat_le (l : List (List UInt8)) {i : Nat} (h : i ≤ l.length) : (pcs l i).flatten.length ≤ sm wV l := by
  rw [Ber.tot_flat]
  exact Nat.le_trans (pcs_le l i h).1 (sm_take _ _ _)
theorem pcs_flat_succ (l : List (List UInt8)) (i : Nat) : (pcs l (i + 1)).flatten = (pcs l i).flatten ++ (pieceL l.length i (l.getD i default)).flatten := by
  rw [pcs, List.flatten_append]
theorem pieceL_m {n i : Nat} {s : List UInt8} (h : 0 < i ∧ i + 1 < n) : (pieceL n i s).flatten = Ber.tagB 129 [s] := by
  unfold pieceL; rw [if_pos h]; simp
theorem pieceL_n {n i : Nat} {s : List UInt8} (h : ¬ (0 < i ∧ i + 1 < n)) (hs : s = []) : (pieceL n i s).flatten = [] := by
  unfold pieceL; rw [if_neg h, if_pos hs]; rfl
theorem pieceL_f {n i : Nat} {s : List UInt8} (h : i = 0) (hs : s ≠ []) : (pieceL n i s).flatten = Ber.tagB 128 [s] := by
  unfold pieceL; rw [if_neg (by omega), if_neg hs, if_pos h]; simp
theorem pieceL_l {n i : Nat} {s : List UInt8} (h : ¬ (0 < i ∧ i + 1 < n)) (h0 : i ≠ 0) (hs : s ≠ []) : (pieceL n i s).flatten = Ber.tagB 130 [s] := by
  unfold pieceL; rw [if_neg h, if_neg hs, if_neg h0]; simp
end Go.Ms
set_option maxRecDepth 8000
set_option linter.unusedVariables false
namespace Go.Proofs.YtkpghepeagafoaaGreat
open Go.Vk
attribute [local irreducible] HT HX RegS RegA RegM OpP OpC AltT
attribute [local irreducible] Ber.tagB Ber.lenB Ber.intB Ms.textB Ms.wV Ms.wF Ms.filB Ms.piecesB Ms.tagF Fi.isF Fi.wt Ms.wM Ms.wA Ms.textsB Ms.modsB Ms.attrsB Ms.attB Ms.attrB Ms.modB Ms.pcs Ms.pieceL
theorem tagD2 (t : UInt8) (a b : List UInt8) (h : a.length + b.length ≤ 1000000000) : CFn Tryz.prog 40 [okI .u8 (t.toNat : Int), TSlX 1 (fun ts : List Ty => ts) [[TBytes a], [TBytes b]]] (TBytes (Ber.tagB t [a, b])) := CFn.sub (tagD t [a, b] (by rw [Ms.tot_cons, Ms.tot_cons, Ms.tot_nil]; exact h) (by simp)) (by exact byQ)
set_option maxHeartbeats 1000000 in
theorem rfMods25 (l : List Ms.Mod) (hl : Ms.sm Ms.wM l ≤ 100000000) (hk : ∀ m ∈ l, Ms.okK m.kind) : CFn Tryz.prog 69 [TSl 3 Ms.cMod l] (TBytes (Ms.modsB l)) := by
  have hlen := Ms.sm_len Ms.wM_pos l
  have e : Ms.modsB l = Ber.tagB 48 [(l.map Ms.modB).flatten] := by unfold Ms.modsB; rw [Ms.tag_flat]
  rw [e]
  have htl : ∀ i, ((l.take i).map Ms.modB).flatten.length ≤ Ms.sm Ms.wM l := fun i => by
    rw [Ber.tot_flat]
    exact Nat.le_trans (Ms.tot_mem (f := Ms.wM) (g := Ms.modB) (l.take i) (fun a ha => Ms.modB_le (hk a (List.mem_of_mem_take ha)))) (Ms.sm_take _ _ _)
  refine CallsC.of Tryz.call69 Tryz.func69 rfl Tryz.ntmps69 rfl fun w0 G0 S0 hs ho => ?_
  refine run ?_
  refine HT.loopX (σ := Nat × List UInt8 × Value) [0, 2] (fun t' => [(3, TAnd (Is t'.2.2) (TBytes t'.2.1)), (4, okI .i64 (t'.1 : Int))]) (fun t' => [ownSl t'.2.2 1 5]) (fun t' => t'.1 ≤ l.length ∧ t'.2.1 = ((l.take t'.1).map Ms.modB).flatten) (fun t' => l.length - t'.1) (0, [], .slice none 0 0) ⟨Nat.zero_le _, rfl⟩ (run trivial) (run trivial) ?_
  rintro ⟨i, q, v⟩ ⟨hi, ha⟩
  dsimp only at hi ha ⊢
  have hql := htl i
  rw [← ha] at hql
  by_cases hlt : i < l.length
  · have h2 := Ms.flat_snoc (f := Ms.modB) hlt
    have hk9 := hk _ (En.getD_mem hlt)
    have h7 := Ms.modB_le hk9
    have h9 := Ms.sm_mem (f := Ms.wM) (En.getD_mem hlt)
    have h8 : Ms.wM (l.getD i default) = Ms.wAt (l.getD i default).typ (l.getD i default).vals + 40 := by unfold Ms.wM; rfl
    have c1 := rfAttr25 (l.getD i default).typ (l.getD i default).vals (by omega)
    have c2 := rfNum25 10 (l.getD i default).kind hk9
    have h4 := Ber.intB_len (l.getD i default).kind hk9
    have h5 := Ms.attB_le (l.getD i default).typ (l.getD i default).vals
    have h3 := Ms.tagB_le 10 [Ber.intB (l.getD i default).kind]
    rw [Ber.tot_one] at h3
    have c5 : CFn Tryz.prog 40 [okI .u8 48, TSlX 1 (fun ts : List Ty => ts) [[TBytes (Ber.tagB 10 [Ber.intB (l.getD i default).kind])], [TBytes (Ms.attB (l.getD i default).typ (l.getD i default).vals)]]] (TBytes (Ms.modB (l.getD i default))) := by
      have e : Ms.modB (l.getD i default) = Ber.tagB 48 [Ber.tagB 10 [Ber.intB (l.getD i default).kind], Ms.attB (l.getD i default).typ (l.getD i default).vals] := by unfold Ms.modB; rfl
      rw [e]
      exact tagD2 48 _ _ (by omega)
    have pl := Plan.mk' 5 [(1,3,[]),(2,3,[]),(3,3,[]),(4,3,[]),(5,3,[]),(6,3,[]),(7,3,[]),(8,3,[]),(9,3,[]),(10,3,[]),(11,3,[]),(12,3,[]),(13,3,[]),(14,3,[]),(15,3,[]),(16,3,[]),(17,3,[]),(18,3,[]),(19,3,[]),(0,2,[1]),(20,0,[1]),(21,3,[])]
    clear hk htl
    refine run ?_
    intro v' _
    exact HX.roundX (i + 1, q ++ Ms.modB (l.getD i default), v') ⟨⟨by dsimp only; omega, by dsimp only; rw [h2, ha]⟩, by dsimp only; omega⟩ rfl (run trivial) (run trivial)
  · rw [List.take_of_length_le (by omega)] at ha
    rw [← ha]
    have c1 := tagD1 48 q (by omega)
    clear ha e htl
    exact run trivial
set_option maxHeartbeats 4000000 in
theorem rfFilterS25 (k : Int) (t v : List UInt8) (s : List (List UInt8)) (ks : List Fi.Fil) (hk : (k = 0 ∨ k = 1 ∨ k = 2) ∨ ((k = 3 ∨ k = 4 ∨ k = 5 ∨ k = 6 ∨ k = 7) ∧ ks = [])) (hw : Ms.wF (.mk k t v s ks) ≤ 100000000) (IH : ∀ f ∈ ks, CFn Tryz.prog 67 [TAgg (Fi.cF f)] (TBytes (Ms.filB f))) : CFn Tryz.prog 67 [TAgg (Fi.cF (.mk k t v s ks))] (TBytes (Ms.filB (.mk k t v s ks))) := by
  rw [Ms.wF_mk] at hw
  rw [Fi.cF_open]
  dsimp only [Fi.Fil.kind, Fi.Fil.typ, Fi.Fil.val, Fi.Fil.subs, Fi.Fil.kids]
  have ct := rfText25 t (by omega)
  have hT := Ms.textB_le t
  have hd1 : Ms.wV t = t.length + 10 := by unfold Ms.wV; rfl
  rcases hk with hk | ⟨hk, rfl⟩
  · have hlen := Ms.sm_len Ms.wF_pos ks
    have htl : ∀ i, ((ks.take i).map Ms.filB).flatten.length ≤ Ms.sm Ms.wF ks := fun i => Nat.le_trans (Ms.flat_len Ms.filB_le _) (Ms.sm_take _ _ _)
    have e : Ms.filB (.mk k t v s ks) = Ber.tagB (Ms.tagF k) [(ks.map Ms.filB).flatten] := by rw [Ms.filB_b hk, Ms.tag_flat]
    rw [e]
    clear ct e
    refine CallsC.of Tryz.call67 Tryz.func67 rfl Tryz.ntmps67 rfl fun w0 G0 S0 hs ho => ?_
    refine run ?_
    refine HT.loopX (σ := Nat × List UInt8 × Value) [1, 2] (fun t' => [(3, TAnd (Is t'.2.2) (TBytes t'.2.1)), (4, okI .i64 (t'.1 : Int))]) (fun t' => [ownSl t'.2.2 1 5]) (fun t' => t'.1 ≤ ks.length ∧ t'.2.1 = ((ks.take t'.1).map Ms.filB).flatten) (fun t' => ks.length - t'.1) (0, [], .slice none 0 0) ⟨Nat.zero_le _, rfl⟩ (run trivial) (run trivial) ?_
    rintro ⟨i, q, v'⟩ ⟨hi, ha⟩
    dsimp only at hi ha ⊢
    have hql := htl i
    rw [← ha] at hql
    by_cases hlt : i < ks.length
    · have c1 := IH _ (En.getD_mem hlt)
      have h2 := Ms.flat_snoc (f := Ms.filB) hlt
      have h9 := Ms.sm_mem (f := Ms.wF) (En.getD_mem hlt)
      have h7 := Ms.filB_le (ks.getD i default)
      clear IH htl
      refine run ?_
      intro v2 _
      exact HX.roundX (i + 1, q ++ Ms.filB (ks.getD i default), v2) ⟨⟨by dsimp only; omega, by dsimp only; rw [h2, ha]⟩, by dsimp only; omega⟩ rfl (run trivial) (run trivial)
    · rw [List.take_of_length_le (by omega)] at ha
      rw [← ha]
      clear IH htl
      rcases hk with rfl | rfl | rfl
      · have c1 := tagD1 160 q (by omega)
        rw [Ms.tagF_0]
        exact run trivial
      · have c1 := tagD1 161 q (by omega)
        rw [Ms.tagF_1]
        exact run trivial
      · have c1 := tagD1 162 q (by omega)
        rw [Ms.tagF_2]
        exact run trivial
  · have hz0 : ((@List.nil Fi.Fil).length : Int) = 0 := rfl
    by_cases h7 : k = 7
    · subst h7
      have c2 := tagD1 135 t (by omega)
      rw [Ms.filB_7]
      clear IH ct
      refine CallsC.of Tryz.call67 Tryz.func67 rfl Tryz.ntmps67 rfl fun w0 G0 S0 hs ho => ?_
      refine run ?_
      refine HT.loopX (σ := Unit) [1, 2] (fun _ => [(3, Is (.slice none 0 0)), (4, okI .i64 0)]) (fun _ => []) (fun _ => True) (fun _ => 0) () trivial (run trivial) (run trivial) ?_
      intro _ _
      exact run trivial
    by_cases h4 : k = 4
    · subst h4
      have hlen := Ms.sm_len Ms.wV_pos s
      have hP := Ms.piecesB_le s
      have hd2 : Ms.wVs s = Ms.sm Ms.wV s + 10 := rfl
      have htl := fun i (h : i ≤ s.length) => Ms.pcs_flat_le s h
      have e : Ms.piecesB s = Ber.tagB 48 [(Ms.pcs s s.length).flatten] := by unfold Ms.piecesB; rw [Ms.tag_flat]
      rw [Ms.filB_4, Ms.tagF_4]
      have c2 := tagD2 164 (Ms.textB t) (Ms.piecesB s) (by omega)
      rw [e] at c2 ⊢
      clear IH e hP
      refine CallsC.of Tryz.call67 Tryz.func67 rfl Tryz.ntmps67 rfl fun w0 G0 S0 hs ho => ?_
      refine run ?_
      refine HT.loopX (σ := Unit) [1, 2] (fun _ => [(3, Is (.slice none 0 0)), (4, okI .i64 0)]) (fun _ => []) (fun _ => True) (fun _ => 0) () trivial (run trivial) (run trivial) ?_
      intro _ _
      refine run ?_
      intros
      refine HT.loopX (σ := Nat × List UInt8 × Value) [1, 2, 5] (fun t' => [(3, TAnd (Is t'.2.2) (TBytes t'.2.1)), (6, okI .i64 (t'.1 : Int))]) (fun t' => [ownSl t'.2.2 1 5]) (fun t' => t'.1 ≤ s.length ∧ t'.2.1 = (Ms.pcs s t'.1).flatten) (fun t' => s.length - t'.1) (0, [], .slice none 0 0) ⟨Nat.zero_le _, by dsimp only; unfold Ms.pcs; rfl⟩ (run trivial) (run trivial) ?_
      rintro ⟨i, q, v'⟩ ⟨hi, ha⟩
      dsimp only at hi ha ⊢
      have hql := htl i hi
      rw [← ha] at hql
      by_cases hlt : i < s.length
      · have h2 := Ms.pcs_flat_succ s i
        have h3 := htl (i + 1) hlt
        have h9 := Ms.sm_mem (f := Ms.wV) (En.getD_mem hlt)
        have h8 : Ms.wV (s.getD i default) = (s.getD i default).length + 10 := by unfold Ms.wV; rfl
        have p1 := tagD1 128 (s.getD i default) (by omega)
        have p2 := tagD1 129 (s.getD i default) (by omega)
        have p3 := tagD1 130 (s.getD i default) (by omega)
        have l1 := Ms.tag1_le 128 (s.getD i default)
        have l2 := Ms.tag1_le 129 (s.getD i default)
        have l3 := Ms.tag1_le 130 (s.getD i default)
        rw [← ha] at h2
        clear c2 ct htl
        refine run ?_
        refine ⟨fun w' _ g1 => ?_, fun w' _ g1 g2 => ?_, fun w' _ g1 g2 g3 => ?_, fun _ g1 g2 g3 => ?_⟩
        · have e : (Ms.pieceL s.length i (s.getD i default)).flatten = Ber.tagB 128 [s.getD i default] := Ms.pieceL_f (by omega) g1.2
          exact HX.roundX (i + 1, q ++ Ber.tagB 128 [s.getD i default], w') ⟨⟨by dsimp only; omega, by dsimp only; rw [h2, e]⟩, by dsimp only; omega⟩ rfl (run trivial) (run trivial)
        · have e : (Ms.pieceL s.length i (s.getD i default)).flatten = Ber.tagB 129 [s.getD i default] := Ms.pieceL_m (by omega)
          exact HX.roundX (i + 1, q ++ Ber.tagB 129 [s.getD i default], w') ⟨⟨by dsimp only; omega, by dsimp only; rw [h2, e]⟩, by dsimp only; omega⟩ rfl (run trivial) (run trivial)
        · have e : (Ms.pieceL s.length i (s.getD i default)).flatten = Ber.tagB 130 [s.getD i default] := Ms.pieceL_l (by omega) (by omega) g3.2
          exact HX.roundX (i + 1, q ++ Ber.tagB 130 [s.getD i default], w') ⟨⟨by dsimp only; omega, by dsimp only; rw [h2, e]⟩, by dsimp only; omega⟩ rfl (run trivial) (run trivial)
        · have e : (Ms.pieceL s.length i (s.getD i default)).flatten = [] := by
            refine Ms.pieceL_n (by omega) ?_
            rcases g3 with g3 | g3
            · rcases g1 with g1 | g1
              · omega
              · exact Decidable.not_not.1 g1
            · exact Decidable.not_not.1 g3
          exact HX.roundX (i + 1, q, v') ⟨⟨by dsimp only; omega, by dsimp only; rw [h2, e, List.append_nil]⟩, by dsimp only; omega⟩ rfl (run trivial) (run trivial)
      · have hie : i = s.length := by omega
        subst hie
        rw [← ha] at c2 ⊢
        have c3 := tagD1 48 q (by omega)
        clear htl ha
        exact run trivial
    · have cv := rfText25 v (by omega)
      have hV := Ms.textB_le v
      have hd2 : Ms.wV v = v.length + 10 := by unfold Ms.wV; rfl
      rw [Ms.filB_3 (by omega)]
      clear IH
      have hk3 : k = 3 ∨ k = 5 ∨ k = 6 := by omega
      rcases hk3 with rfl | rfl | rfl
      · have c2 := tagD2 163 (Ms.textB t) (Ms.textB v) (by omega)
        rw [Ms.tagF_3]
        refine CallsC.of Tryz.call67 Tryz.func67 rfl Tryz.ntmps67 rfl fun w0 G0 S0 hs ho => ?_
        refine run ?_
        refine HT.loopX (σ := Unit) [1, 2] (fun _ => [(3, Is (.slice none 0 0)), (4, okI .i64 0)]) (fun _ => []) (fun _ => True) (fun _ => 0) () trivial (run trivial) (run trivial) ?_
        intro _ _
        exact run trivial
      · have c2 := tagD2 165 (Ms.textB t) (Ms.textB v) (by omega)
        rw [Ms.tagF_5]
        refine CallsC.of Tryz.call67 Tryz.func67 rfl Tryz.ntmps67 rfl fun w0 G0 S0 hs ho => ?_
        refine run ?_
        refine HT.loopX (σ := Unit) [1, 2] (fun _ => [(3, Is (.slice none 0 0)), (4, okI .i64 0)]) (fun _ => []) (fun _ => True) (fun _ => 0) () trivial (run trivial) (run trivial) ?_
        intro _ _
        exact run trivial
      · have c2 := tagD2 166 (Ms.textB t) (Ms.textB v) (by omega)
        rw [Ms.tagF_6]
        refine CallsC.of Tryz.call67 Tryz.func67 rfl Tryz.ntmps67 rfl fun w0 G0 S0 hs ho => ?_
        refine run ?_
        refine HT.loopX (σ := Unit) [1, 2] (fun _ => [(3, Is (.slice none 0 0)), (4, okI .i64 0)]) (fun _ => []) (fun _ => True) (fun _ => 0) () trivial (run trivial) (run trivial) ?_
        intro _ _
        exact run trivial
theorem rfFilterN25 : ∀ (N : Nat) (f : Fi.Fil), Fi.nodes f ≤ N → Ms.wF f ≤ 100000000 → Ms.Prf f → CFn Tryz.prog 67 [TAgg (Fi.cF f)] (TBytes (Ms.filB f))
  | 0, .mk k t v s ks, h, _, _ => by unfold Fi.nodes at h; omega
  | N + 1, .mk k t v s ks, h, hw, hp => by
    have e : Fi.nodes (.mk k t v s ks) = 1 + Fi.nodesL ks := by unfold Fi.nodes; rfl
    rw [e] at h
    have hw' := hw
    rw [Ms.wF_mk] at hw'
    unfold Ms.Prf at hp
    exact rfFilterS25 k t v s ks hp.1 hw (fun f hf => rfFilterN25 N f (by have := Fi.kid_lt hf; omega) (by have := Ms.sm_mem (f := Ms.wF) hf; omega) (Ms.PrfL_mem.1 hp.2 f hf))
theorem rfFilter25 (f : Fi.Fil) (hw : Ms.wF f ≤ 100000000) (hp : Ms.Prf f) : CFn Tryz.prog 67 [TAgg (Fi.cF f)] (TBytes (Ms.filB f)) := rfFilterN25 (Fi.nodes f) f (Nat.le_refl _) hw hp
end Go.Proofs.YtkpghepeagafoaaGreat
set_option linter.unusedVariables false
set_option maxRecDepth 8000
set_option linter.unusedVariables false
namespace Go.Proofs.YtkpghepeagafoaaGreat
open Go.Vk
attribute [local irreducible] HT HX RegS RegA RegM OpP OpC AltT
attribute [local irreducible] Ber.tagB Ber.lenB Ber.intB Ms.textB Ms.wV Ms.wF Ms.filB Ms.piecesB Ms.tagF Fi.isF Fi.wt Ms.wM Ms.wA Ms.textsB Ms.modsB Ms.attrsB
set_option maxHeartbeats 8000000 in
theorem rfOp0 (r : Ms.Req) (ha : Ms.Okr r) (hk : r.kind = 0) : CFn Tryz.prog 42 [TAgg (Ms.cReq r)] (TBytes (Ms.opB r)) := by
  obtain ⟨num, kind, dn, pass, scope, limit, fil, want, mods, attrs, rdn, keep, above, up, avaT, avaV, which⟩ := r
  dsimp only at hk
  subst hk
  obtain ⟨o1, o2, o3, o4, o5, o6, o7, o8, o9, o10, o11, o12, o13, o14, o15, o16, o17⟩ := ha
  dsimp only at o1 o2 o3 o4 o5 o6 o7 o8 o9 o10 o11 o12 o13 o14 o15 o16 o17
  have e : Ms.opB ⟨num, 0, dn, pass, scope, limit, fil, want, mods, attrs, rdn, keep, above, up, avaT, avaV, which⟩ = Ber.tagB 96 [Ber.tagB 2 [Ber.intB 3], Ms.textB dn, Ber.tagB 128 [pass]] := rfl
  rw [e]
  dsimp only [Ms.cReq]
  have cN := rfText25 dn (by omega)
  have lN := Ms.textB_le' dn
  have c1 : CFn Tryz.prog 41 [okI .u8 2, okI .i64 3] (TBytes (Ber.tagB 2 [Ber.intB 3])) := rfNum25 2 3 (by unfold Ms.okK; omega)
  have l1 := Ms.intB_le' (n := 3) (by unfold Ms.okK; omega)
  have l2 := Ms.tag1_le 2 (Ber.intB 3)
  have l3 := Ms.tag1_le 128 pass
  have c3 : CFn Tryz.prog 40 [okI .u8 128, TSlX 1 (fun ts : List Ty => ts) [[TBytes (pass)]]] (TBytes (Ber.tagB 128 [pass])) := CFn.sub (tagD 128 [pass] (by rw [Ms.tot_cons, Ms.tot_nil]; omega) (by simp)) (by exact byQ)
  have c4 : CFn Tryz.prog 40 [okI .u8 96, TSlX 1 (fun ts : List Ty => ts) [[TBytes (Ber.tagB 2 [Ber.intB 3])], [TBytes (Ms.textB dn)], [TBytes (Ber.tagB 128 [pass])]]] (TBytes (Ber.tagB 96 [Ber.tagB 2 [Ber.intB 3], Ms.textB dn, Ber.tagB 128 [pass]])) := CFn.sub (tagD 96 [Ber.tagB 2 [Ber.intB 3], Ms.textB dn, Ber.tagB 128 [pass]] (by rw [Ms.tot_cons, Ms.tot_cons, Ms.tot_cons, Ms.tot_nil]; omega) (by simp)) (by exact byQ)
  clear o1 o2 o3 o4 o5 o12 o13 o14 o15 o16 o17 e
  refine CallsC.of Tryz.call42 Tryz.func42 rfl Tryz.ntmps42 rfl fun w0 G0 S0 hs ho => ?_
  exact run trivial
set_option maxHeartbeats 8000000 in
theorem rfOp3 (r : Ms.Req) (ha : Ms.Okr r) (hk : r.kind = 3) (hp : Ms.Prf r.fil) : CFn Tryz.prog 42 [TAgg (Ms.cReq r)] (TBytes (Ms.opB r)) := by
  obtain ⟨num, kind, dn, pass, scope, limit, fil, want, mods, attrs, rdn, keep, above, up, avaT, avaV, which⟩ := r
  dsimp only at hk
  subst hk
  obtain ⟨o1, o2, o3, o4, o5, o6, o7, o8, o9, o10, o11, o12, o13, o14, o15, o16, o17⟩ := ha
  dsimp only at o1 o2 o3 o4 o5 o6 o7 o8 o9 o10 o11 o12 o13 o14 o15 o16 o17
  have e : Ms.opB ⟨num, 3, dn, pass, scope, limit, fil, want, mods, attrs, rdn, keep, above, up, avaT, avaV, which⟩ = Ber.tagB 99 [Ms.textB dn, Ber.tagB 10 [Ber.intB scope], Ber.tagB 10 [Ber.intB 0], Ber.tagB 2 [Ber.intB limit], Ber.tagB 2 [Ber.intB 0], Ber.tagB 1 [Ms.boolB false], Ms.filB fil, Ms.textsB 48 want] := rfl
  rw [e]
  dsimp only [Ms.cReq]
  have cN := rfText25 dn (by omega)
  have lN := Ms.textB_le' dn
  have c1 : CFn Tryz.prog 41 [okI .u8 10, okI .i64 scope] (TBytes (Ber.tagB 10 [Ber.intB scope])) := rfNum25 10 scope o3
  have c2 : CFn Tryz.prog 41 [okI .u8 10, okI .i64 0] (TBytes (Ber.tagB 10 [Ber.intB 0])) := rfNum25 10 0 Ms.okK0
  have c3 : CFn Tryz.prog 41 [okI .u8 2, okI .i64 limit] (TBytes (Ber.tagB 2 [Ber.intB limit])) := rfNum25 2 limit o4
  have c4 : CFn Tryz.prog 41 [okI .u8 2, okI .i64 0] (TBytes (Ber.tagB 2 [Ber.intB 0])) := rfNum25 2 0 Ms.okK0
  have l1 := Ms.intB_le' (n := 0) (by unfold Ms.okK; omega)
  have l2 := Ms.intB_le' o3
  have l3 := Ms.intB_le' o4
  have cb : CFn Tryz.prog 66 [Is (.bool false)] (TBytes (Ms.boolB false)) := refBool false
  have lb := Ms.boolB_len false
  have cf := rfFilter25 fil (by omega) hp
  rw [Fi.cF_open fil] at cf
  have lf := Ms.filB_le fil
  have cw := rfRows25 48 want (by omega)
  have lw := Ms.textsB_le 48 want
  have lw' : Ms.wVs want = Ms.sm Ms.wV want + 10 := rfl
  have q0 := Ms.tag1_le 10 (Ber.intB scope)
  have q1 := Ms.tag1_le 10 (Ber.intB 0)
  have q2 := Ms.tag1_le 2 (Ber.intB limit)
  have q3 := Ms.tag1_le 2 (Ber.intB 0)
  have q4 := Ms.tag1_le 1 (Ms.boolB false)
  have d5 : CFn Tryz.prog 40 [okI .u8 1, TSlX 1 (fun ts : List Ty => ts) [[TBytes (Ms.boolB false)]]] (TBytes (Ber.tagB 1 [Ms.boolB false])) := CFn.sub (tagD 1 [Ms.boolB false] (by rw [Ms.tot_cons, Ms.tot_nil]; omega) (by simp)) (by exact byQ)
  have d6 : CFn Tryz.prog 40 [okI .u8 99, TSlX 1 (fun ts : List Ty => ts) [[TBytes (Ms.textB dn)], [TBytes (Ber.tagB 10 [Ber.intB scope])], [TBytes (Ber.tagB 10 [Ber.intB 0])], [TBytes (Ber.tagB 2 [Ber.intB limit])], [TBytes (Ber.tagB 2 [Ber.intB 0])], [TBytes (Ber.tagB 1 [Ms.boolB false])], [TBytes (Ms.filB fil)], [TBytes (Ms.textsB 48 want)]]] (TBytes (Ber.tagB 99 [Ms.textB dn, Ber.tagB 10 [Ber.intB scope], Ber.tagB 10 [Ber.intB 0], Ber.tagB 2 [Ber.intB limit], Ber.tagB 2 [Ber.intB 0], Ber.tagB 1 [Ms.boolB false], Ms.filB fil, Ms.textsB 48 want])) := CFn.sub (tagD 99 [Ms.textB dn, Ber.tagB 10 [Ber.intB scope], Ber.tagB 10 [Ber.intB 0], Ber.tagB 2 [Ber.intB limit], Ber.tagB 2 [Ber.intB 0], Ber.tagB 1 [Ms.boolB false], Ms.filB fil, Ms.textsB 48 want] (by rw [Ms.tot_cons, Ms.tot_cons, Ms.tot_cons, Ms.tot_cons, Ms.tot_cons, Ms.tot_cons, Ms.tot_cons, Ms.tot_cons, Ms.tot_nil]; omega) (by simp)) (by exact byQ)
  clear o1 o2 o3 o4 o5 o12 o13 o14 o15 o16 o17 e
  refine CallsC.of Tryz.call42 Tryz.func42 rfl Tryz.ntmps42 rfl fun w0 G0 S0 hs ho => ?_
  exact run trivial
set_option maxHeartbeats 8000000 in
theorem rfOp6 (r : Ms.Req) (ha : Ms.Okr r) (hk : r.kind = 6) : CFn Tryz.prog 42 [TAgg (Ms.cReq r)] (TBytes (Ms.opB r)) := by
  obtain ⟨num, kind, dn, pass, scope, limit, fil, want, mods, attrs, rdn, keep, above, up, avaT, avaV, which⟩ := r
  dsimp only at hk
  subst hk
  obtain ⟨o1, o2, o3, o4, o5, o6, o7, o8, o9, o10, o11, o12, o13, o14, o15, o16, o17⟩ := ha
  dsimp only at o1 o2 o3 o4 o5 o6 o7 o8 o9 o10 o11 o12 o13 o14 o15 o16 o17
  have e : Ms.opB ⟨num, 6, dn, pass, scope, limit, fil, want, mods, attrs, rdn, keep, above, up, avaT, avaV, which⟩ = Ber.tagB 102 [Ms.textB dn, Ms.modsB mods] := rfl
  rw [e]
  dsimp only [Ms.cReq]
  have cN := rfText25 dn (by omega)
  have lN := Ms.textB_le' dn
  have c1 := rfMods25 mods (by omega) o16
  have l1 := Ms.modsB_le o16
  have c2 : CFn Tryz.prog 40 [okI .u8 102, TSlX 1 (fun ts : List Ty => ts) [[TBytes (Ms.textB dn)], [TBytes (Ms.modsB mods)]]] (TBytes (Ber.tagB 102 [Ms.textB dn, Ms.modsB mods])) := CFn.sub (tagD 102 [Ms.textB dn, Ms.modsB mods] (by rw [Ms.tot_cons, Ms.tot_cons, Ms.tot_nil]; omega) (by simp)) (by exact byQ)
  clear o1 o2 o3 o4 o5 o12 o13 o14 o15 o16 o17 e
  refine CallsC.of Tryz.call42 Tryz.func42 rfl Tryz.ntmps42 rfl fun w0 G0 S0 hs ho => ?_
  exact run trivial
set_option maxHeartbeats 8000000 in
theorem rfOp8 (r : Ms.Req) (ha : Ms.Okr r) (hk : r.kind = 8) : CFn Tryz.prog 42 [TAgg (Ms.cReq r)] (TBytes (Ms.opB r)) := by
  obtain ⟨num, kind, dn, pass, scope, limit, fil, want, mods, attrs, rdn, keep, above, up, avaT, avaV, which⟩ := r
  dsimp only at hk
  subst hk
  obtain ⟨o1, o2, o3, o4, o5, o6, o7, o8, o9, o10, o11, o12, o13, o14, o15, o16, o17⟩ := ha
  dsimp only at o1 o2 o3 o4 o5 o6 o7 o8 o9 o10 o11 o12 o13 o14 o15 o16 o17
  have e : Ms.opB ⟨num, 8, dn, pass, scope, limit, fil, want, mods, attrs, rdn, keep, above, up, avaT, avaV, which⟩ = Ber.tagB 104 [Ms.textB dn, Ms.attrsB attrs] := rfl
  rw [e]
  dsimp only [Ms.cReq]
  have cN := rfText25 dn (by omega)
  have lN := Ms.textB_le' dn
  have c1 := rfAttrs25 attrs (by omega)
  have l1 := Ms.attrsB_le attrs
  have c2 : CFn Tryz.prog 40 [okI .u8 104, TSlX 1 (fun ts : List Ty => ts) [[TBytes (Ms.textB dn)], [TBytes (Ms.attrsB attrs)]]] (TBytes (Ber.tagB 104 [Ms.textB dn, Ms.attrsB attrs])) := CFn.sub (tagD 104 [Ms.textB dn, Ms.attrsB attrs] (by rw [Ms.tot_cons, Ms.tot_cons, Ms.tot_nil]; omega) (by simp)) (by exact byQ)
  clear o1 o2 o3 o4 o5 o12 o13 o14 o15 o16 o17 e
  refine CallsC.of Tryz.call42 Tryz.func42 rfl Tryz.ntmps42 rfl fun w0 G0 S0 hs ho => ?_
  exact run trivial
set_option maxHeartbeats 8000000 in
theorem rfOp10 (r : Ms.Req) (ha : Ms.Okr r) (hk : r.kind = 10) : CFn Tryz.prog 42 [TAgg (Ms.cReq r)] (TBytes (Ms.opB r)) := by
  obtain ⟨num, kind, dn, pass, scope, limit, fil, want, mods, attrs, rdn, keep, above, up, avaT, avaV, which⟩ := r
  dsimp only at hk
  subst hk
  obtain ⟨o1, o2, o3, o4, o5, o6, o7, o8, o9, o10, o11, o12, o13, o14, o15, o16, o17⟩ := ha
  dsimp only at o1 o2 o3 o4 o5 o6 o7 o8 o9 o10 o11 o12 o13 o14 o15 o16 o17
  have e : Ms.opB ⟨num, 10, dn, pass, scope, limit, fil, want, mods, attrs, rdn, keep, above, up, avaT, avaV, which⟩ = Ber.tagB 74 [dn] := rfl
  rw [e]
  dsimp only [Ms.cReq]
  have cN := rfText25 dn (by omega)
  have lN := Ms.textB_le' dn
  have c2 : CFn Tryz.prog 40 [okI .u8 74, TSlX 1 (fun ts : List Ty => ts) [[TBytes (dn)]]] (TBytes (Ber.tagB 74 [dn])) := CFn.sub (tagD 74 [dn] (by rw [Ms.tot_cons, Ms.tot_nil]; omega) (by simp)) (by exact byQ)
  clear o1 o2 o3 o4 o5 o12 o13 o14 o15 o16 o17 e
  refine CallsC.of Tryz.call42 Tryz.func42 rfl Tryz.ntmps42 rfl fun w0 G0 S0 hs ho => ?_
  exact run trivial
set_option maxHeartbeats 8000000 in
theorem rfOp12 (r : Ms.Req) (ha : Ms.Okr r) (hk : r.kind = 12) : CFn Tryz.prog 42 [TAgg (Ms.cReq r)] (TBytes (Ms.opB r)) := by
  obtain ⟨num, kind, dn, pass, scope, limit, fil, want, mods, attrs, rdn, keep, above, up, avaT, avaV, which⟩ := r
  dsimp only at hk
  subst hk
  obtain ⟨o1, o2, o3, o4, o5, o6, o7, o8, o9, o10, o11, o12, o13, o14, o15, o16, o17⟩ := ha
  dsimp only at o1 o2 o3 o4 o5 o6 o7 o8 o9 o10 o11 o12 o13 o14 o15 o16 o17
  have e : Ms.opB ⟨num, 12, dn, pass, scope, limit, fil, want, mods, attrs, rdn, keep, above, up, avaT, avaV, which⟩ = Ber.tagB 108 (Ms.renB ⟨num, 12, dn, pass, scope, limit, fil, want, mods, attrs, rdn, keep, above, up, avaT, avaV, which⟩) := rfl
  rw [e]
  dsimp only [Ms.cReq]
  have cN := rfText25 dn (by omega)
  have lN := Ms.textB_le' dn
  have c1 := rfText25 rdn (by omega)
  have l1 := Ms.textB_le' rdn
  have cb : CFn Tryz.prog 66 [Is (.bool (!keep))] (TBytes (Ms.boolB (!keep))) := refBool (!keep)
  have lb := Ms.boolB_len (!keep)
  have q1 := Ms.tag1_le 1 (Ms.boolB (!keep))
  have q2 := Ms.tag1_le 128 up
  have d1 : CFn Tryz.prog 40 [okI .u8 1, TSlX 1 (fun ts : List Ty => ts) [[TBytes (Ms.boolB (!keep))]]] (TBytes (Ber.tagB 1 [Ms.boolB (!keep)])) := CFn.sub (tagD 1 [Ms.boolB (!keep)] (by rw [Ms.tot_cons, Ms.tot_nil]; omega) (by simp)) (by exact byQ)
  cases above with
  | false =>
    have e2 : Ms.renB ⟨num, 12, dn, pass, scope, limit, fil, want, mods, attrs, rdn, keep, false, up, avaT, avaV, which⟩ = [Ms.textB dn, Ms.textB rdn, Ber.tagB 1 [Ms.boolB (!keep)]] := rfl
    rw [e2]
    have d2 : CFn Tryz.prog 40 [okI .u8 108, TSlX 1 (fun ts : List Ty => ts) [[TBytes (Ms.textB dn)], [TBytes (Ms.textB rdn)], [TBytes (Ber.tagB 1 [Ms.boolB (!keep)])]]] (TBytes (Ber.tagB 108 [Ms.textB dn, Ms.textB rdn, Ber.tagB 1 [Ms.boolB (!keep)]])) := CFn.sub (tagD 108 [Ms.textB dn, Ms.textB rdn, Ber.tagB 1 [Ms.boolB (!keep)]] (by rw [Ms.tot_cons, Ms.tot_cons, Ms.tot_cons, Ms.tot_nil]; omega) (by simp)) (by exact byQ)
    clear o1 o2 o3 o4 o5 o12 o13 o14 o15 o16 o17 e e2
    refine CallsC.of Tryz.call42 Tryz.func42 rfl Tryz.ntmps42 rfl fun w0 G0 S0 hs ho => ?_
    exact run trivial
  | true =>
    have e2 : Ms.renB ⟨num, 12, dn, pass, scope, limit, fil, want, mods, attrs, rdn, keep, true, up, avaT, avaV, which⟩ = [Ms.textB dn, Ms.textB rdn, Ber.tagB 1 [Ms.boolB (!keep)], Ber.tagB 128 [up]] := rfl
    rw [e2]
    have d3 : CFn Tryz.prog 40 [okI .u8 128, TSlX 1 (fun ts : List Ty => ts) [[TBytes (up)]]] (TBytes (Ber.tagB 128 [up])) := CFn.sub (tagD 128 [up] (by rw [Ms.tot_cons, Ms.tot_nil]; omega) (by simp)) (by exact byQ)
    have hlt : 27 < Tryz.prog.types.size := Nat.le_of_ble_eq_true (by kernel_rfl)
    have hsz : (Tryz.prog.types[27]'hlt).size = 1 := by kernel_rfl
    have d2 : ∀ v : Value, CFn Tryz.prog 40 [okI .u8 108, TAnd (Is v) (TSl (Tryz.prog.types[27]'hlt).size (fun ts : List Ty => ts) (List.map (fun ts : List Ty => ts) [[TSl 1 cB (Ms.textB dn)], [TSl 1 cB (Ms.textB rdn)], [TSl 1 cB (Ber.tagB 1 [Ms.boolB (!keep)])]] ++ [[TSl 1 cB (Ber.tagB 128 [up])]]))] (TBytes (Ber.tagB 108 [Ms.textB dn, Ms.textB rdn, Ber.tagB 1 [Ms.boolB (!keep)], Ber.tagB 128 [up]])) := by
      intro v
      rw [hsz]
      exact CFn.sub (tagD 108 [Ms.textB dn, Ms.textB rdn, Ber.tagB 1 [Ms.boolB (!keep)], Ber.tagB 128 [up]] (by rw [Ms.tot_cons, Ms.tot_cons, Ms.tot_cons, Ms.tot_cons, Ms.tot_nil]; omega) (by simp)) ⟨Sub.refl _, Sub.ownR (Sub.slT rfl), trivial⟩
    clear o1 o2 o3 o4 o5 o12 o13 o14 o15 o16 o17 e e2 q1 q2 hsz
    have mu := Mut.mk' [87]
    have pl := Plan.mk' 15 [(0,3,[]),(1,3,[]),(2,3,[]),(3,3,[]),(4,3,[]),(5,3,[]),(6,3,[]),(7,3,[]),(8,3,[]),(9,3,[]),(10,3,[]),(11,3,[]),(12,0,[]),(13,3,[])]
    refine CallsC.of Tryz.call42 Tryz.func42 rfl Tryz.ntmps42 rfl fun w0 G0 S0 hs ho => ?_
    exact run trivial
set_option maxHeartbeats 8000000 in
theorem rfOp14 (r : Ms.Req) (ha : Ms.Okr r) (hk : r.kind = 14) : CFn Tryz.prog 42 [TAgg (Ms.cReq r)] (TBytes (Ms.opB r)) := by
  obtain ⟨num, kind, dn, pass, scope, limit, fil, want, mods, attrs, rdn, keep, above, up, avaT, avaV, which⟩ := r
  dsimp only at hk
  subst hk
  obtain ⟨o1, o2, o3, o4, o5, o6, o7, o8, o9, o10, o11, o12, o13, o14, o15, o16, o17⟩ := ha
  dsimp only at o1 o2 o3 o4 o5 o6 o7 o8 o9 o10 o11 o12 o13 o14 o15 o16 o17
  have e : Ms.opB ⟨num, 14, dn, pass, scope, limit, fil, want, mods, attrs, rdn, keep, above, up, avaT, avaV, which⟩ = Ber.tagB 110 [Ms.textB dn, Ber.tagB 48 [Ms.textB avaT, Ms.textB avaV]] := rfl
  rw [e]
  dsimp only [Ms.cReq]
  have cN := rfText25 dn (by omega)
  have lN := Ms.textB_le' dn
  have c1 := rfText25 avaT (by omega)
  have c2 := rfText25 avaV (by omega)
  have l1 := Ms.textB_le' avaT
  have l2 := Ms.textB_le' avaV
  have l3 := Ms.tagB_le 48 [Ms.textB avaT, Ms.textB avaV]
  rw [Ms.tot_cons, Ms.tot_cons, Ms.tot_nil] at l3
  have d1 : CFn Tryz.prog 40 [okI .u8 48, TSlX 1 (fun ts : List Ty => ts) [[TBytes (Ms.textB avaT)], [TBytes (Ms.textB avaV)]]] (TBytes (Ber.tagB 48 [Ms.textB avaT, Ms.textB avaV])) := CFn.sub (tagD 48 [Ms.textB avaT, Ms.textB avaV] (by rw [Ms.tot_cons, Ms.tot_cons, Ms.tot_nil]; omega) (by simp)) (by exact byQ)
  have d2 : CFn Tryz.prog 40 [okI .u8 110, TSlX 1 (fun ts : List Ty => ts) [[TBytes (Ms.textB dn)], [TBytes (Ber.tagB 48 [Ms.textB avaT, Ms.textB avaV])]]] (TBytes (Ber.tagB 110 [Ms.textB dn, Ber.tagB 48 [Ms.textB avaT, Ms.textB avaV]])) := CFn.sub (tagD 110 [Ms.textB dn, Ber.tagB 48 [Ms.textB avaT, Ms.textB avaV]] (by rw [Ms.tot_cons, Ms.tot_cons, Ms.tot_nil]; omega) (by simp)) (by exact byQ)
  clear o1 o2 o3 o4 o5 o12 o13 o14 o15 o16 o17 e
  refine CallsC.of Tryz.call42 Tryz.func42 rfl Tryz.ntmps42 rfl fun w0 G0 S0 hs ho => ?_
  exact run trivial
set_option maxHeartbeats 8000000 in
theorem rfOp16 (r : Ms.Req) (ha : Ms.Okr r) (hk : r.kind = 16) : CFn Tryz.prog 42 [TAgg (Ms.cReq r)] (TBytes (Ms.opB r)) := by
  obtain ⟨num, kind, dn, pass, scope, limit, fil, want, mods, attrs, rdn, keep, above, up, avaT, avaV, which⟩ := r
  dsimp only at hk
  subst hk
  obtain ⟨o1, o2, o3, o4, o5, o6, o7, o8, o9, o10, o11, o12, o13, o14, o15, o16, o17⟩ := ha
  dsimp only at o1 o2 o3 o4 o5 o6 o7 o8 o9 o10 o11 o12 o13 o14 o15 o16 o17
  have e : Ms.opB ⟨num, 16, dn, pass, scope, limit, fil, want, mods, attrs, rdn, keep, above, up, avaT, avaV, which⟩ = Ber.tagB 80 [Ber.intB which] := rfl
  rw [e]
  dsimp only [Ms.cReq]
  have cN := rfText25 dn (by omega)
  have lN := Ms.textB_le' dn
  have c1 : CFn Tryz.prog 41 [okI .u8 80, okI .i64 which] (TBytes (Ber.tagB 80 [Ber.intB which])) := rfNum25 80 which o5
  clear o1 o2 o3 o4 o5 o12 o13 o14 o15 o16 o17 e
  refine CallsC.of Tryz.call42 Tryz.func42 rfl Tryz.ntmps42 rfl fun w0 G0 S0 hs ho => ?_
  exact run trivial
set_option maxHeartbeats 8000000 in
theorem rfOp2 (r : Ms.Req) (ha : Ms.Okr r) (hk : r.kind = 2) : CFn Tryz.prog 42 [TAgg (Ms.cReq r)] (TBytes (Ms.opB r)) := by
  obtain ⟨num, kind, dn, pass, scope, limit, fil, want, mods, attrs, rdn, keep, above, up, avaT, avaV, which⟩ := r
  dsimp only at hk
  subst hk
  obtain ⟨o1, o2, o3, o4, o5, o6, o7, o8, o9, o10, o11, o12, o13, o14, o15, o16, o17⟩ := ha
  dsimp only at o1 o2 o3 o4 o5 o6 o7 o8 o9 o10 o11 o12 o13 o14 o15 o16 o17
  have e : Ms.opB ⟨num, 2, dn, pass, scope, limit, fil, want, mods, attrs, rdn, keep, above, up, avaT, avaV, which⟩ = Ber.tagB 66 [] := rfl
  rw [e]
  dsimp only [Ms.cReq]
  have cN := rfText25 dn (by omega)
  have lN := Ms.textB_le' dn
  have c1 : CFn Tryz.prog 40 [okI .u8 66, Is (.slice none 0 0)] (TBytes (Ber.tagB 66 [])) := CFn.sub (tagD 66 [] (by decide) (by decide)) ⟨Sub.refl _, Sub.nil _ _, trivial⟩
  clear o1 o2 o3 o4 o5 o12 o13 o14 o15 o16 o17 e
  refine CallsC.of Tryz.call42 Tryz.func42 rfl Tryz.ntmps42 rfl fun w0 G0 S0 hs ho => ?_
  exact run trivial
theorem rfOp25 (r : Ms.Req) (ha : Ms.Okr r) (hk : Ms.isKindB r.kind = true) (hp : r.kind = 3 → Ms.Prf r.fil) : CFn Tryz.prog 42 [TAgg (Ms.cReq r)] (TBytes (Ms.opB r)) := by
  rcases Ms.isKindB_iff.1 hk with h | h | h | h | h | h | h | h | h
  · exact rfOp0 r ha h
  · exact rfOp2 r ha h
  · exact rfOp3 r ha h (hp h)
  · exact rfOp6 r ha h
  · exact rfOp8 r ha h
  · exact rfOp10 r ha h
  · exact rfOp12 r ha h
  · exact rfOp14 r ha h
  · exact rfOp16 r ha h
attribute [local irreducible] Ms.opB Ms.soundB
theorem rfBytes25 (r : Ms.Req) (ha : Ms.Okr r) (hk : Ms.isKindB r.kind = true) (hp : r.kind = 3 → Ms.Prf r.fil) : CFn Tryz.prog 22 [TAgg (Ms.cReq r)] (TBytes (Ms.reqB r)) := by
  have c2 := rfOp25 r ha hk hp
  have l1 := Ms.intB_le' ha.num
  have l2 := Ms.tag1_le 2 (Ber.intB r.num)
  have l3 := Ms.opB_le ha
  have c3 : CFn Tryz.prog 41 [okI .u8 2, okI .i64 r.num] (TBytes (Ber.tagB 2 [Ber.intB r.num])) := rfNum25 2 r.num ha.num
  have c5 : CFn Tryz.prog 40 [okI .u8 48, TSlX 1 (fun ts : List Ty => ts) [[TBytes (Ber.tagB 2 [Ber.intB r.num])], [TBytes (Ms.opB r)]]] (TBytes (Ms.reqB r)) := tagD2 48 _ _ (by omega)
  clear ha l1 l2 l3
  refine CallsC.of Tryz.call22 Tryz.func22 rfl Tryz.ntmps22 rfl fun w0 G0 S0 hs ho => ?_
  exact run trivial
end Go.Proofs.YtkpghepeagafoaaGreat
set_option linter.unusedVariables false
namespace Go.Fi
open Go.Vk
open Go.Dn (typB typC halfV)
/-- Whether a piece may not stand where it stands. -/
def badAt (l : List (List UInt8)) (i : Nat) : Bool := decide ((256 : Int) < ((l.getD i default).length : Int)) || (decide (l.getD i default = []) && decide (0 < i) && decide (i + 1 < l.length))
theorem mem_mid {l : List (List UInt8)} {s : List UInt8} : s ∈ (l.drop 1).dropLast ↔ ∃ i, 0 < i ∧ i + 1 < l.length ∧ l.getD i default = s := by
  rw [List.mem_iff_getElem]
  simp only [List.length_dropLast, List.length_drop]
  constructor
  · rintro ⟨i, hi, h⟩
    refine ⟨i + 1, by omega, by omega, ?_⟩
    rw [List.getElem_dropLast, List.getElem_drop] at h
    rw [List.getD_eq_getElem?_getD, List.getElem?_eq_getElem (by omega), Option.getD_some, ← h]
    congr 1; omega
  · rintro ⟨i, h0, h1, h⟩
    refine ⟨i - 1, by omega, ?_⟩
    rw [List.getElem_dropLast, List.getElem_drop]
    rw [List.getD_eq_getElem?_getD, List.getElem?_eq_getElem (by omega), Option.getD_some] at h
    rw [← h]
    congr 1; omega
theorem mem_at {l : List (List UInt8)} {s : List UInt8} : s ∈ l ↔ ∃ i, i < l.length ∧ l.getD i default = s := by
  rw [List.mem_iff_getElem]
  constructor
  · rintro ⟨i, hi, h⟩
    exact ⟨i, hi, by rw [List.getD_eq_getElem?_getD, List.getElem?_eq_getElem hi, Option.getD_some, h]⟩
  · rintro ⟨i, hi, h⟩
    rw [List.getD_eq_getElem?_getD, List.getElem?_eq_getElem hi, Option.getD_some] at h
    exact ⟨i, hi, h⟩
theorem bad_snoc {l : List (List UInt8)} {i : Nat} (h : ∀ j, j < i → badAt l j = false) (hb : badAt l i = false) : ∀ j, j < i + 1 → badAt l j = false := fun j hj => by
  rcases Nat.lt_succ_iff_lt_or_eq.1 hj with h1 | h1
  · exact h j h1
  · rw [h1]; exact hb
theorem subsB_short {l : List (List UInt8)} (h : l.length < 2 ∨ 16 < l.length) : subsB l = false := by
  unfold subsB
  rcases h with h | h
  · rw [decide_eq_false (by omega : ¬ 2 ≤ l.length)]; simp
  · rw [decide_eq_false (by omega : ¬ l.length ≤ 16)]; simp
theorem subsB_bad {l : List (List UInt8)} {i : Nat} (hi : i < l.length) (h : badAt l i = true) : subsB l = false := by
  unfold subsB
  unfold badAt at h
  simp only [Bool.or_eq_true, Bool.and_eq_true, decide_eq_true_eq] at h
  rcases h with h | ⟨⟨h1, h2⟩, h3⟩
  · have : l.all okS = false := by
      rw [Bool.eq_false_iff]
      intro ha
      rw [List.all_eq_true] at ha
      have := ha _ (mem_at.2 ⟨i, hi, rfl⟩)
      unfold okS at this
      simp only [decide_eq_true_eq] at this
      omega
    rw [this]; simp
  · have : (l.drop 1).dropLast.all (fun s => !decide (s = [])) = false := by
      rw [Bool.eq_false_iff]
      intro ha
      rw [List.all_eq_true] at ha
      have := ha _ (mem_mid.2 ⟨i, h2, h3, rfl⟩)
      rw [h1] at this
      simp at this
    rw [this]; simp
theorem subsB_end {l : List (List UInt8)} (h1 : 2 ≤ l.length) (h2 : l.length ≤ 16) (h : ∀ i, i < l.length → badAt l i = false) : subsB l = l.any (fun s => !decide (s = [])) := by
  have ha : l.all okS = true := by
    rw [List.all_eq_true]
    intro s hs
    obtain ⟨i, hi, rfl⟩ := mem_at.1 hs
    have := h i hi
    unfold badAt at this
    simp only [Bool.or_eq_false_iff, decide_eq_false_iff_not] at this
    unfold okS
    simp only [decide_eq_true_eq]
    omega
  have hb : (l.drop 1).dropLast.all (fun s => !decide (s = [])) = true := by
    rw [List.all_eq_true]
    intro s hs
    obtain ⟨i, h3, h4, rfl⟩ := mem_mid.1 hs
    have := h i (by omega)
    unfold badAt at this
    rw [decide_eq_true h3, decide_eq_true h4] at this
    simp only [Bool.and_true, Bool.or_eq_false_iff] at this
    rw [this.2]; rfl
  unfold subsB
  rw [ha, hb, decide_eq_true h1, decide_eq_true h2]; rfl
theorem any_snoc {l : List (List UInt8)} {i : Nat} (h : i < l.length) : (l.take (i + 1)).any (fun s => !decide (s = [])) = ((l.take i).any (fun s => !decide (s = [])) || !decide (l.getD i default = [])) := by
  rw [List.take_add_one, List.any_append, List.getElem?_eq_getElem h, List.getD_eq_getElem?_getD, List.getElem?_eq_getElem h]
  simp
theorem one_big {k : Int} {t v : List UInt8} {s : List (List UInt8)} {ks : List Fil} {d : Nat} (h : ¬ d ≤ 16) : oneF (.mk k t v s ks) d = false := by
  unfold oneF; rw [decide_eq_false h]; rfl
theorem one_box {k : Int} {t v : List UInt8} {s : List (List UInt8)} {ks : List Fil} {d : Nat} (h : d ≤ 16) (hk : k = 0 ∨ k = 1 ∨ k = 2) : oneF (.mk k t v s ks) d = (decide (t = []) && decide (v = []) && decide (s = []) && decide (ks ≠ []) && (decide (k ≠ 2) || decide (ks.length ≤ 1)) && oneL ks (d + 1)) := by
  conv => lhs; unfold oneF
  rw [decide_eq_true h, if_pos hk]; rfl
theorem one_leaf {k : Int} {t v : List UInt8} {s : List (List UInt8)} {ks : List Fil} {d : Nat} (h : d ≤ 16) (hk : k = 3 ∨ k = 5 ∨ k = 6) : oneF (.mk k t v s ks) d = (decide (ks = []) && decide (s = []) && typB t && okS v) := by
  conv => lhs; unfold oneF
  rw [decide_eq_true h, if_neg (by omega), if_pos hk]; rfl
theorem one_4 {t v : List UInt8} {s : List (List UInt8)} {ks : List Fil} {d : Nat} (h : d ≤ 16) : oneF (.mk 4 t v s ks) d = (decide (ks = []) && decide (v = []) && typB t && subsB s) := by
  conv => lhs; unfold oneF
  rw [decide_eq_true h]; rfl
theorem one_7 {t v : List UInt8} {s : List (List UInt8)} {ks : List Fil} {d : Nat} (h : d ≤ 16) : oneF (.mk 7 t v s ks) d = (decide (ks = []) && decide (v = []) && decide (s = []) && typB t) := by
  conv => lhs; unfold oneF
  rw [decide_eq_true h]; rfl
theorem one_x {k : Int} {t v : List UInt8} {s : List (List UInt8)} {ks : List Fil} {d : Nat} (h : d ≤ 16) (hk : ¬ (k = 0 ∨ k = 1 ∨ k = 2) ∧ ¬ (k = 3 ∨ k = 5 ∨ k = 6) ∧ k ≠ 4 ∧ k ≠ 7) : oneF (.mk k t v s ks) d = false := by
  unfold oneF
  rw [if_neg hk.1, if_neg hk.2.1, if_neg hk.2.2.1, if_neg hk.2.2.2]; simp
theorem drop_fil {l : List Fil} {i : Nat} (h : i < l.length) : l.drop i = l.getD i default :: l.drop (i + 1) := by
  rw [List.drop_eq_getElem_cons h, List.getD_eq_getElem?_getD, List.getElem?_eq_getElem h, Option.getD_some]
theorem oneL_cons (f : Fil) (r : List Fil) (d : Nat) : oneL (f :: r) d = (oneF f d && oneL r d) := by
  conv => lhs; unfold oneL
theorem nilF {l : List Fil} : l = [] ↔ (l.length : Int) = 0 := by
  rw [← List.length_eq_zero_iff]; omega
theorem nilS {l : List (List UInt8)} : l = [] ↔ (l.length : Int) = 0 := by
  rw [← List.length_eq_zero_iff]; omega
mutual
theorem nodes_wt : ∀ f : Fil, nodes f ≤ wt f
  | .mk k t v s ks => by
    have := nodesL_wt ks
    rw [nodes, wt]; omega
theorem nodesL_wt : ∀ l : List Fil, nodesL l ≤ wtL l
  | [] => by rw [nodesL, wtL]; omega
  | f :: r => by
    have h1 := nodes_wt f
    have h2 := nodesL_wt r
    rw [nodesL, wtL]; omega
end
end Go.Fi
set_option maxRecDepth 8000
set_option linter.unusedVariables false
namespace Go.Proofs.YtkpghepeagafoaaGreat
open Go.Vk
attribute [local irreducible] HT HX RegS RegA RegM OpP OpC AltT
attribute [local irreducible] Dn.typB Fi.nodes Fi.nodesL Fi.oneF Fi.oneL Fi.subsB
set_option maxHeartbeats 2000000 in
theorem rfSubs (l : List (List UInt8)) (hl : l.length ≤ 1100000) : CFn Tryz.prog 86 [TSl 1 Fi.cS l] (Is (.bool (Fi.subsB l))) := by
  by_cases hs : l.length < 2 ∨ 16 < l.length
  · rw [Fi.subsB_short hs]
    refine CallsC.of Tryz.call86 Tryz.func86 rfl Tryz.ntmps86 rfl fun w0 G0 S0 hs ho => ?_
    exact run trivial
  refine CallsC.of Tryz.call86 Tryz.func86 rfl Tryz.ntmps86 rfl fun w0 G0 S0 hs ho => ?_
  refine run ?_
  intro _
  refine HT.loopX (σ := Nat) [0] (fun i => [(3, Is (.bool ((l.take i).any (fun s => !decide (s = []))))), (4, okI .i64 (i : Int))]) (fun _ => []) (fun i => i ≤ l.length ∧ ∀ j, j < i → Fi.badAt l j = false) (fun i => l.length - i) 0 ⟨Nat.zero_le _, fun j h => absurd h (Nat.not_lt_zero _)⟩ (run trivial) (by first | exact run trivial | (refine run ?_; simp)) ?_
  rintro i ⟨hi, he⟩
  by_cases hlt : i < l.length
  · have hu : Fi.badAt l i = (decide ((256 : Int) < ((l.getD i default).length : Int)) || (decide (l.getD i default = []) && decide (0 < i) && decide (i + 1 < l.length))) := rfl
    have hsn := Fi.any_snoc hlt
    cases hb : Fi.badAt l i with
    | true =>
      rw [Fi.subsB_bad hlt hb]
      rw [hb] at hu
      simp only [Bool.true_eq, Bool.or_eq_true, Bool.and_eq_true, decide_eq_true_eq] at hu
      refine run ?_
      intros
      exfalso; grind
    | false =>
      rw [hb] at hu
      simp only [Bool.false_eq, Bool.or_eq_false_iff, Bool.and_eq_false_iff, decide_eq_false_iff_not] at hu
      refine run ?_
      refine ⟨?_, ?_⟩ <;> intros
      · exfalso; grind
      · exact HX.roundX (i + 1) ⟨⟨by omega, Fi.bad_snoc he hb⟩, by omega⟩ rfl (run trivial) (by refine run ?_; rw [hsn]; simp)
  · have ht : l.take i = l := List.take_of_length_le (by omega)
    rw [Fi.subsB_end (by omega) (by omega) (fun j hj => he j (by omega)), ht]
    have hno : ¬ (i : Int) < (l.length : Int) := by omega
    exact run trivial
/-- What a filter's contract is, where it stands so deep. -/
def OneC (f : Fi.Fil) : Prop := ∀ d : Nat, d ≤ 17 → CFn Tryz.prog 61 [TAgg (Fi.cF f), okI .i64 (d : Int)] (Is (.bool (Fi.oneF f d)))
set_option maxHeartbeats 4000000 in
theorem rfOne_b (k : Int) (t v : List UInt8) (s : List (List UInt8)) (ks : List Fi.Fil) (hk : k = 0 ∨ k = 1 ∨ k = 2) (hk1 : ks.length ≤ 1100000) (IH : ∀ f ∈ ks, OneC f) : OneC (.mk k t v s ks) := by
  intro d hd
  by_cases hdd : d ≤ 16
  · rw [Fi.one_box hdd hk, Fi.cF_open]
    dsimp only [Fi.Fil.kind, Fi.Fil.typ, Fi.Fil.val, Fi.Fil.subs, Fi.Fil.kids]
    cases hB : (decide (t = []) && decide (v = []) && decide (s = []) && decide (ks ≠ []) && (decide (k ≠ 2) || decide (ks.length ≤ 1))) with
    | true =>
      rw [Bool.true_and]
      simp only [Bool.and_eq_true, Bool.or_eq_true, decide_eq_true_eq] at hB
      obtain ⟨⟨⟨⟨rfl, rfl⟩, rfl⟩, hne⟩, hB⟩ := hB
      rw [ne_eq, Fi.nilF] at hne
      rcases hk with rfl | rfl | rfl
      all_goals
        refine CallsC.of Tryz.call61 Tryz.func61 rfl Tryz.ntmps61 rfl fun w0 G0 S0 hs ho => ?_
        refine run ?_
        (refine ⟨?_, ?_⟩ <;> intros)
        · exfalso; grind
        refine HT.loopX (σ := Nat) [1, 2, 9] (fun i => [(5, okI .i64 (i : Int))]) (fun _ => []) (fun i => i ≤ ks.length ∧ Fi.oneL (ks.drop i) (d + 1) = Fi.oneL ks (d + 1)) (fun i => ks.length - i) 0 ⟨Nat.zero_le _, rfl⟩ (run trivial) (run trivial) ?_
        rintro i ⟨hi, he⟩
        by_cases hlt : i < ks.length
        · have c1 : CFn Tryz.prog 61 [TAgg (Fi.cF (ks.getD i default)), okI .i64 ((d : Int) + 1)] (Is (.bool (Fi.oneF (ks.getD i default) (d + 1)))) := IH _ (En.getD_mem hlt) (d + 1) (by omega)
          rw [Fi.drop_fil hlt, Fi.oneL_cons] at he
          clear IH
          cases h1 : Fi.oneF (ks.getD i default) (d + 1) with
          | true =>
            rw [h1] at c1
            rw [h1, Bool.true_and] at he
            refine run ?_
            intros
            exact HX.roundX (i + 1) ⟨⟨by omega, he⟩, by omega⟩ rfl (run trivial) (run trivial)
          | false =>
            rw [h1] at c1
            rw [h1, Bool.false_and] at he
            rw [← he]
            exact run trivial
        · rw [← he, List.drop_of_length_le (by omega)]
          clear IH
          refine run ?_
          intros
          unfold Fi.oneL; rfl
    | false =>
      rw [Bool.false_and]
      clear IH
      rcases hk with rfl | rfl | rfl
      all_goals
        refine CallsC.of Tryz.call61 Tryz.func61 rfl Tryz.ntmps61 rfl fun w0 G0 S0 hs ho => ?_
        refine run ?_
        intros
        exfalso
        have e1 := Fi.nilF (l := ks)
        have e2 := Fi.nilS (l := s)
        grind
  · rw [Fi.one_big hdd]
    clear IH
    refine CallsC.of Tryz.call61 Tryz.func61 rfl Tryz.ntmps61 rfl fun w0 G0 S0 hs ho => ?_
    exact run trivial
set_option maxHeartbeats 4000000 in
theorem rfOne_3 (k : Int) (t v : List UInt8) (s : List (List UInt8)) (ks : List Fi.Fil) (hk : k = 3 ∨ k = 5 ∨ k = 6) (ht : t.length ≤ 1100000) : OneC (.mk k t v s ks) := by
  intro d hd
  by_cases hdd : d ≤ 16
  · rw [Fi.one_leaf hdd hk, Fi.cF_open]
    dsimp only [Fi.Fil.kind, Fi.Fil.typ, Fi.Fil.val, Fi.Fil.subs, Fi.Fil.kids]
    have c1 := rfType t (by omega)
    refine CallsC.of Tryz.call61 Tryz.func61 rfl Tryz.ntmps61 rfl fun w0 G0 S0 hs ho => ?_
    refine run ?_
    and_intros <;> intros <;> simp only [Fi.nilF, Fi.nilS, Fi.okS]
  · rw [Fi.one_big hdd]
    refine CallsC.of Tryz.call61 Tryz.func61 rfl Tryz.ntmps61 rfl fun w0 G0 S0 hs ho => ?_
    exact run trivial
set_option maxHeartbeats 4000000 in
theorem rfOne_4 (t v : List UInt8) (s : List (List UInt8)) (ks : List Fi.Fil) (ht : t.length ≤ 1100000) (hs1 : s.length ≤ 1100000) : OneC (.mk 4 t v s ks) := by
  intro d hd
  by_cases hdd : d ≤ 16
  · rw [Fi.one_4 hdd, Fi.cF_open]
    dsimp only [Fi.Fil.kind, Fi.Fil.typ, Fi.Fil.val, Fi.Fil.subs, Fi.Fil.kids]
    have c1 := rfType t (by omega)
    have c2 := rfSubs s hs1
    refine CallsC.of Tryz.call61 Tryz.func61 rfl Tryz.ntmps61 rfl fun w0 G0 S0 hs ho => ?_
    refine run ?_
    and_intros <;> intros <;> simp only [Fi.nilF, Fi.nilS, Fi.okS]
  · rw [Fi.one_big hdd]
    refine CallsC.of Tryz.call61 Tryz.func61 rfl Tryz.ntmps61 rfl fun w0 G0 S0 hs ho => ?_
    exact run trivial
set_option maxHeartbeats 4000000 in
theorem rfOne_7 (t v : List UInt8) (s : List (List UInt8)) (ks : List Fi.Fil) (ht : t.length ≤ 1100000) : OneC (.mk 7 t v s ks) := by
  intro d hd
  by_cases hdd : d ≤ 16
  · rw [Fi.one_7 hdd, Fi.cF_open]
    dsimp only [Fi.Fil.kind, Fi.Fil.typ, Fi.Fil.val, Fi.Fil.subs, Fi.Fil.kids]
    have c1 := rfType t (by omega)
    refine CallsC.of Tryz.call61 Tryz.func61 rfl Tryz.ntmps61 rfl fun w0 G0 S0 hs ho => ?_
    refine run ?_
    and_intros <;> intros <;> simp only [Fi.nilF, Fi.nilS, Fi.okS]
  · rw [Fi.one_big hdd]
    refine CallsC.of Tryz.call61 Tryz.func61 rfl Tryz.ntmps61 rfl fun w0 G0 S0 hs ho => ?_
    exact run trivial
set_option maxHeartbeats 4000000 in
theorem rfOne_x (k : Int) (t v : List UInt8) (s : List (List UInt8)) (ks : List Fi.Fil) (hk : ¬ (k = 0 ∨ k = 1 ∨ k = 2) ∧ ¬ (k = 3 ∨ k = 5 ∨ k = 6) ∧ k ≠ 4 ∧ k ≠ 7) : OneC (.mk k t v s ks) := by
  intro d hd
  by_cases hdd : d ≤ 16
  · rw [Fi.one_x hdd hk, Fi.cF_open]
    dsimp only [Fi.Fil.kind, Fi.Fil.typ, Fi.Fil.val, Fi.Fil.subs, Fi.Fil.kids]
    refine CallsC.of Tryz.call61 Tryz.func61 rfl Tryz.ntmps61 rfl fun w0 G0 S0 hs ho => ?_
    exact run trivial
  · rw [Fi.one_big hdd]
    refine CallsC.of Tryz.call61 Tryz.func61 rfl Tryz.ntmps61 rfl fun w0 G0 S0 hs ho => ?_
    exact run trivial
theorem rfOne : ∀ (N : Nat) (f : Fi.Fil), Fi.nodes f ≤ N → Fi.wt f ≤ 1100000 → OneC f
  | 0, .mk k t v s ks, h, _ => by unfold Fi.nodes at h; omega
  | N + 1, .mk k t v s ks, h, hw => by
    have e : Fi.nodes (.mk k t v s ks) = 1 + Fi.nodesL ks := by unfold Fi.nodes; rfl
    rw [e] at h
    rw [Fi.wt] at hw
    have w1 := Fi.wtl ks
    have w2 := Fi.sbl s
    by_cases k1 : k = 0 ∨ k = 1 ∨ k = 2
    · exact rfOne_b k t v s ks k1 (by omega) (fun a ha => rfOne N a (by have := Fi.kid_lt ha; omega) (by have := Fi.wtk ha; omega))
    by_cases k2 : k = 3 ∨ k = 5 ∨ k = 6
    · exact rfOne_3 k t v s ks k2 (by omega)
    by_cases k3 : k = 4
    · subst k3; exact rfOne_4 t v s ks (by omega) (by omega)
    by_cases k4 : k = 7
    · subst k4; exact rfOne_7 t v s ks (by omega)
    · exact rfOne_x k t v s ks ⟨k1, k2, k3, k4⟩
theorem rfIs (f : Fi.Fil) (hw : Fi.wt f ≤ 1100000) : CFn Tryz.prog 38 [TAgg (Fi.cF f)] (Is (.bool (Fi.isF f))) := by
  have c1 := rfOne (Fi.nodes f) f (Nat.le_refl _) hw 1 (by omega)
  have hn := Fi.nodes_wt f
  have c2 := rfNodes (Fi.nodes f) f (Nat.le_refl _) (by omega)
  unfold Fi.isF
  refine CallsC.of Tryz.call38 Tryz.func38 rfl Tryz.ntmps38 rfl fun w0 G0 S0 hs ho => ?_
  have e : decide ((Fi.nodes f : Int) ≤ 64) = decide (Fi.nodes f ≤ 64) := decide_eq_decide.2 (by omega)
  refine run ?_
  rw [e]
end Go.Proofs.YtkpghepeagafoaaGreat
set_option linter.unusedVariables false
set_option maxRecDepth 8000
set_option linter.unusedVariables false
namespace Go.Proofs.YtkpghepeagafoaaGreat
open Go.Vk
attribute [local irreducible] HT HX RegS RegA RegM OpP OpC AltT
attribute [local irreducible] Fi.nodes Fi.nodesL Fi.sameF
theorem rfTexts (l m : List (List UInt8)) (hl : l.length ≤ 1100000) : CFn Tryz.prog 60 [TSl 1 Fi.cS l, TSl 1 Fi.cS m] (Is (.bool (decide (l = m)))) := by
  refine CallsC.of Tryz.call60 Tryz.func60 rfl Tryz.ntmps60 rfl fun w0 G0 S0 hs ho => ?_
  refine run ?_
  refine ⟨?_, ?_⟩
  · intro h
    exact (decide_eq_false (fun e => h (by rw [e]))).symm
  intro hc
  refine HT.loopX (σ := Nat) [0, 1] (fun i => [(5, okI .i64 (i : Int))]) (fun _ => []) (fun i => i ≤ l.length ∧ l.take i = m.take i) (fun i => l.length - i) 0 ⟨Nat.zero_le _, rfl⟩ (run trivial) (run trivial) ?_
  rintro i ⟨hi, he⟩
  have hc' : l.length = m.length := by
    have : (l.length : Int) = (m.length : Int) := Decidable.not_not.1 hc
    omega
  refine run ?_
  and_intros
  all_goals intros
  · rename_i h1 h2
    exact (decide_eq_false (fun e => h2 (by rw [e]))).symm
  · rename_i h1 h2
    exact HX.roundX (i + 1) ⟨⟨by omega, En.take_ext (by omega) hc' he (Decidable.not_not.1 h2)⟩, by omega⟩ rfl (run trivial) (run trivial)
  · rename_i h1
    exact (decide_eq_true (En.take_all h1 hc' he)).symm
set_option maxHeartbeats 2000000 in
theorem rfSameS (k k' : Int) (t t' v v' : List UInt8) (s s' : List (List UInt8)) (ks ks' : List Fi.Fil) (hs1 : s.length ≤ 1100000) (hk1 : ks.length ≤ 1100000) (IH : ∀ a ∈ ks, ∀ b, CFn Tryz.prog 32 [TAgg (Fi.cF a), TAgg (Fi.cF b)] (Is (.bool (decide (a = b))))) : CFn Tryz.prog 32 [TAgg (Fi.cF (.mk k t v s ks)), TAgg (Fi.cF (.mk k' t' v' s' ks'))] (Is (.bool (decide (Fi.Fil.mk k t v s ks = Fi.Fil.mk k' t' v' s' ks')))) := by
  have c1 := rfTexts s s' hs1
  rw [Fi.fil_eq, Fi.cF_open (.mk k t v s ks), Fi.cF_open (.mk k' t' v' s' ks')]
  dsimp only [Fi.Fil.kind, Fi.Fil.typ, Fi.Fil.val, Fi.Fil.subs, Fi.Fil.kids]
  cases hB : (decide (k = k') && decide (t = t') && decide (v = v') && decide (s = s') && decide (ks.length = ks'.length)) with
  | false =>
    have hf : (decide (k = k') && decide (t = t') && decide (v = v') && decide (s = s') && decide (ks = ks')) = false := by
      rw [Bool.eq_false_iff] at hB ⊢
      intro h
      apply hB
      simp only [Bool.and_eq_true, decide_eq_true_eq] at h ⊢
      exact ⟨h.1, by rw [h.2]⟩
    rw [hf]
    clear IH hf
    refine CallsC.of Tryz.call32 Tryz.func32 rfl Tryz.ntmps32 rfl fun w0 G0 S0 hs ho => ?_
    refine run ?_
    intros
    exfalso
    grind
  | true =>
    simp only [Bool.and_eq_true, decide_eq_true_eq] at hB
    obtain ⟨⟨⟨⟨rfl, rfl⟩, rfl⟩, rfl⟩, hc'⟩ := hB
    rw [decide_eq_true rfl, decide_eq_true rfl, decide_eq_true rfl, decide_eq_true rfl]
    rw [Bool.and_self, Bool.and_self, Bool.and_self, Bool.true_and]
    rw [decide_eq_true rfl] at c1
    refine CallsC.of Tryz.call32 Tryz.func32 rfl Tryz.ntmps32 rfl fun w0 G0 S0 hs ho => ?_
    refine run ?_
    refine ⟨fun h => ?_, fun _ => ?_⟩
    · exfalso; grind
    refine HT.loopX (σ := Nat) [2, 3] (fun i => [(5, okI .i64 (i : Int))]) (fun _ => []) (fun i => i ≤ ks.length ∧ ks.take i = ks'.take i) (fun i => ks.length - i) 0 ⟨Nat.zero_le _, rfl⟩ (run trivial) (run trivial) ?_
    rintro i ⟨hi, he⟩
    have cf' := fun (hlt : i < ks.length) => IH (ks.getD i default) (En.getD_mem hlt) (ks'.getD i default)
    clear IH
    refine run ?_
    refine ⟨fun _ h2 => ?_, fun _ h2 => ?_, fun h1 => ?_⟩
    · exact (decide_eq_false (fun e => h2 (by rw [e]))).symm
    · exact HX.roundX (i + 1) ⟨⟨by omega, En.take_ext (by omega) hc' he h2⟩, by omega⟩ rfl (run trivial) (run trivial)
    · exact (decide_eq_true (En.take_all h1 hc' he)).symm
theorem rfSame : ∀ (N : Nat) (f : Fi.Fil), Fi.nodes f ≤ N → Fi.wt f ≤ 1100000 → ∀ b : Fi.Fil, CFn Tryz.prog 32 [TAgg (Fi.cF f), TAgg (Fi.cF b)] (Is (.bool (decide (f = b))))
  | 0, .mk k t v s ks, h, _, _ => by unfold Fi.nodes at h; omega
  | N + 1, .mk k t v s ks, h, hw, .mk k' t' v' s' ks' => by
    have e : Fi.nodes (.mk k t v s ks) = 1 + Fi.nodesL ks := by unfold Fi.nodes; rfl
    rw [e] at h
    rw [Fi.wt] at hw
    have w1 := Fi.wtl ks
    have w2 := Fi.sbl s
    exact rfSameS k k' t t' v v' s s' ks ks' (by omega) (by omega) (fun a ha b => rfSame N a (by have := Fi.kid_lt ha; omega) (by have := Fi.wtk ha; omega) b)
end Go.Proofs.YtkpghepeagafoaaGreat
