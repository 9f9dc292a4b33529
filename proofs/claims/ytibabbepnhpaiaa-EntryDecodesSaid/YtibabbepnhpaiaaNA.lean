/-
  The contract of the document's Decode.
-/
import Derived.Test.YtibabbepnhpaiaaN9
set_option linter.unusedVariables false
namespace Go.Proofs.Ytibabbepnhpaiaa
open Go.Vk
attribute [local irreducible] HT HX RegS RegA RegM OpP OpC AltT
attribute [local irreducible] Oct.numV Oct.numT Oct.numE Oct.bytV Oct.bytT Oct.bytE Oct.rows En.stepT Dn.typB Dn.isE Dn.okA En.okT En.isN Oct.bytB En.avaB En.attrB En.encB En.dec1 En.dec En.decN En.okD
set_option maxRecDepth 8000 in
set_option maxHeartbeats 8000000 in
theorem rf20Decode (s : List UInt8) (hl : s.length ≤ 1000000) : CFn Try.prog 7 [Is (str s)] (TTup [TAgg (En.cEnt (if En.okD s = true then En.decN s else En.empE)), okI .i64 (if En.okD s = true then 0 else 3)]) := by
  have c1 := rfNumR
  have c2 := rfBytesR
  have h1 := Oct.numT_len s
  have mu := Mut.mk' [19]
  have pl1 := Plan.mk' 19 [(0,3,[]),(2,3,[]),(7,3,[]),(1,2,[4]),(3,0,[4]),(4,3,[]),(5,3,[]),(6,0,[]),(8,0,[])]
  have hb0 : Oct.numE s false = true → Oct.numT s = [] := Oct.numE_nil (by simp)
  refine CallsC.of Try.call7 Try.func7 rfl Try.ntmps7 rfl fun w0 G0 S0 hs ho => ?_
  refine run ?_
  refine ⟨fun v1 v2 v3 => ?_, by simp⟩
  refine HT.loopX (σ := List Dn.Ava × Oct.RS × Value) [0, 2, 3, 4, 5, 6] (fun t => [(7, okI .i64 (t.1.length : Int))]) (fun t => [ownP (blk v1) 25 [Is (.slice none 0 0), Is (.slice none 0 0)], EX (blk v2) t.2.1.1 t.2.1.2, ownP (blk v3) 25 [TAnd (Is t.2.2) (TSl 2 Dn.cAva t.1), Is (.slice none 0 0)], ownSl t.2.2 2 53]) (fun t => Oct.rows En.stepA Oct.badS Oct.lenS (Oct.numV s) t.1 t.2.1 = En.dec1 s ∧ Oct.Left s.length t.1.length t.2.1 ∧ (t.2.1.2 = true → t.2.1.1 = [])) (fun t => Oct.leftN t.2.1) ([], En.nmT (s, false), .slice none 0 0) ⟨(dec1_def s).symm, Oct.Left.start h1, hb0⟩ (run ?_) (run trivial) ?_
  · exact ⟨rfl, rfl⟩
  rintro ⟨acc, ⟨r, e⟩, v⟩ ⟨hr, hlen, he⟩
  dsimp only at hr hlen he ⊢
  have hb := hlen.bd
  have hbr := hlen.bl
  dsimp only at hb hbr
  have hb1 := Oct.bytT_le r
  have he1 : Oct.bytE r e = true → Oct.bytT r = [] := Oct.bytE_nil he
  have he2 : Oct.bytE (Oct.bytT r) (Oct.bytE r e) = true → Oct.bytT (Oct.bytT r) = [] := Oct.bytE_nil he1
  refine run ?_
  refine ⟨fun v4 v' hc => ?_, fun hc => ?_⟩
  · have hgo := Oct.rows_go En.eatsA hc.1 (s := (r, e)) hc.2
    rw [hgo] at hr
    have hlf := hlen.next (s' := (En.stepA (r, e)).2) hc.2 (En.eatsA.eat (r, e) hc.2) (En.stepA_le (r, e))
    exact HX.roundX (acc ++ [⟨Oct.bytV r, Oct.bytV (Oct.bytT r)⟩], (Oct.bytT (Oct.bytT r), Oct.bytE (Oct.bytT r) (Oct.bytE r e)), v') ⟨⟨hr, by dsimp only; rw [List.length_append]; exact hlf.1, he2⟩, hlf.2⟩ rfl (run trivial) (run trivial)
  have hd1 : En.dec1 s = (acc, (r, e)) := by
    rw [← hr, Oct.rows_end (by intro x; rcases hc with h | h; exact h x.1; exact Bool.noConfusion (h.symm.trans x.2))]
  have h2 := Oct.numT_len r
  have he3 : Oct.numE r e = true → Oct.numT r = [] := Oct.numE_nil he
  clear hb1 he1 he2
  refine HT.loopX (σ := List En.Attr × Oct.RS × Value) [0, 2, 3, 4, 5, 9] (fun t => [(10, okI .i64 (t.1.length : Int))]) (fun t => [ownP (blk v1) 25 [Is (.slice none 0 0), Is (.slice none 0 0)], EX (blk v2) t.2.1.1 t.2.1.2, ownP (blk v3) 25 [TAnd (Is v) (TSl 2 Dn.cAva acc), TAnd (Is t.2.2) (TSl 2 En.cAttr t.1)], ownSl t.2.2 2 46]) (fun t => Oct.rows En.stepT Oct.badS Oct.lenS (Oct.numV r) t.1 t.2.1 = En.dec s ∧ Oct.Left s.length t.1.length t.2.1 ∧ (t.2.1.2 = true → t.2.1.1 = [])) (fun t => Oct.leftN t.2.1) ([], En.nmT (r, e), .slice none 0 0) ⟨by rw [dec_def, hd1], Oct.Left.start (Nat.le_trans h2 hbr), he3⟩ (run ?_) (run trivial) ?_
  · exact ⟨rfl, rfl⟩
  rintro ⟨bcc, ⟨q, f⟩, u⟩ ⟨hq1, hqlen, hf⟩
  dsimp only at hq1 hqlen hf ⊢
  have hqb := hqlen.bd
  have hqbr := hqlen.bl
  dsimp only at hqb hqbr
  have hf1 : Oct.bytE q f = true → Oct.bytT q = [] := Oct.bytE_nil hf
  have hf2 : Oct.numE (Oct.bytT q) (Oct.bytE q f) = true → Oct.numT (Oct.bytT q) = [] := Oct.numE_nil hf1
  have h3 := Oct.bytT_le q
  have h4 := Oct.numT_len (Oct.bytT q)
  refine run ?_
  refine ⟨fun v4 hc => ?_, fun hc => ?_⟩
  · have hgo := Oct.rows_go En.eatsT hc.1 (s := (q, f)) hc.2
    rw [hgo, stepT_def] at hq1
    have hlf := hqlen.next (s' := (En.stepT (q, f)).2) hc.2 (En.eatsT.eat (q, f) hc.2) (En.stepT_le (q, f))
    rw [stepT_def] at hlf
    refine HT.loopX (σ := List (List UInt8) × Oct.RS × Value) [0, 2, 3, 4, 5, 9, 10, 11, 12] (fun t => [(13, okI .i64 (t.1.length : Int))]) (fun t => [ownP (blk v1) 25 [Is (.slice none 0 0), Is (.slice none 0 0)], EX (blk v2) t.2.1.1 t.2.1.2, ownP (blk v3) 25 [TAnd (Is v) (TSl 2 Dn.cAva acc), TAnd (Is u) (TSl 2 En.cAttr bcc)], ownSl u 2 46, ownP (blk v4) 46 [Is (str (Oct.bytV q)), TAnd (Is t.2.2) (TSl 1 En.cS t.1)], ownSl t.2.2 1 9]) (fun t => Oct.rows Oct.stepB Oct.badS Oct.lenS (Oct.numV (Oct.bytT q)) t.1 t.2.1 = Oct.rows Oct.stepB Oct.badS Oct.lenS (Oct.numV (Oct.bytT q)) [] (En.nmT (En.hdT (q, f))) ∧ Oct.Left s.length t.1.length t.2.1 ∧ (t.2.1.2 = true → t.2.1.1 = [])) (fun t => Oct.leftN t.2.1) ([], En.nmT (En.hdT (q, f)), .slice none 0 0) ⟨rfl, Oct.Left.start (Nat.le_trans h4 (Nat.le_trans h3 hqbr)), hf2⟩ (run ?_) (run trivial) ?_
    · exact ⟨rfl, rfl⟩
    rintro ⟨ccc, ⟨p, k⟩, x⟩ ⟨hp, hplen, hk⟩
    dsimp only at hp hplen hk ⊢
    have hpb := hplen.bd
    have hpbr := hplen.bl
    dsimp only at hpb hpbr
    have hk1 : Oct.bytE p k = true → Oct.bytT p = [] := Oct.bytE_nil hk
    have h5 := Oct.bytT_le p
    refine run ?_
    refine ⟨fun v' hc2 => ?_, fun u' hc2 => ?_⟩
    · have hgo2 := Oct.rows_go Oct.eatsB hc2.1 (s := (p, k)) hc2.2
      rw [hgo2] at hp
      have hlf2 := hplen.next (s' := (Oct.stepB (p, k)).2) hc2.2 (Oct.eatsB.eat (p, k) hc2.2) (Oct.bytT_le p)
      exact HX.roundX (ccc ++ [Oct.bytV p], (Oct.bytT p, Oct.bytE p k), v') ⟨⟨hp, by dsimp only; rw [List.length_append]; exact hlf2.1, hk1⟩, hlf2.2⟩ rfl (run trivial) (run trivial)
    · rw [Oct.rows_end (by intro x; rcases hc2 with h | h; exact h x.1; exact Bool.noConfusion (h.symm.trans x.2))] at hp
      rw [← hp] at hq1 hlf
      exact HX.roundX (bcc ++ [⟨Oct.bytV q, ccc⟩], (p, k), u') ⟨⟨hq1, by dsimp only; rw [List.length_append]; exact hlf.1, hk⟩, hlf.2⟩ rfl (run trivial) (run trivial)
  have hd2 : En.dec s = (bcc, (q, f)) := by
    rw [← hq1, Oct.rows_end (by intro x; rcases hc with h | h; exact h x.1; exact Bool.noConfusion (h.symm.trans x.2))]
  have hdn : En.decN s = ⟨acc, bcc⟩ := by rw [decN_def, hd1, hd2]
  have hsn := En.decN_sane hl
  have c5 := rf20Encode (En.decN s) hsn
  have hk1 := okD_no (s := s)
  have hk2 := okD_yes (s := s)
  have hk3 : En.okD s = true → f = false := fun h => by
    have := En.okD_good h
    rw [hd2] at this
    exact congrArg (fun x => x.2) this
  rw [hdn] at c5 hk1 hk2 ⊢
  clear c1 c2
  by_cases hN : En.isN ⟨acc, bcc⟩ = true
  · rw [if_pos hN, if_pos hN] at c5
    by_cases hE : En.encB ⟨acc, bcc⟩ = s
    · rw [hE] at c5
      have hok := hk2 ⟨hN, hE⟩
      have hf0 := hk3 hok
      subst hf0
      rw [hok, if_pos rfl, if_pos rfl]
      refine run ?_
      exact ⟨fun h => absurd rfl h, fun h => absurd rfl h, fun h => absurd rfl h⟩
    · rw [hk1 (.inr hE), if_neg (by simp), if_neg (by simp)]
      refine run ?_
      exact ⟨fun _ => rfl, fun _ => rfl, fun h => (h.2 hE).elim, fun h => (h.2 hE).elim, fun h => (h.2 hE).elim⟩
  · rw [if_neg hN, if_neg hN] at c5
    rw [hk1 (.inl (by simpa using hN)), if_neg (by simp), if_neg (by simp)]
    refine run ?_
    exact ⟨fun _ => rfl, fun _ => rfl⟩
end Go.Proofs.Ytibabbepnhpaiaa
