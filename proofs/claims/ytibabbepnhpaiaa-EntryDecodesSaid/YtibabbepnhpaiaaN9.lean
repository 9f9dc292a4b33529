/-
  The contracts of Decode, the program's and the document's.
-/
import Derived.Test.YtibabbepnhpaiaaN3
import Derived.Test.YtibabbepnhpaiaaN8
import Derived.Test.YtibabbepnhpaiaaO3
set_option linter.unusedVariables false
namespace Go.Proofs.Ytibabbepnhpaiaa
open Go.Vk
attribute [local irreducible] HT HX RegS RegA RegM OpP OpC AltT
theorem stepT_def (l : List UInt8) (b : Bool) : En.stepT (l, b) = (⟨Oct.bytV l, (Oct.rows Oct.stepB Oct.badS Oct.lenS (Oct.numV (Oct.bytT l)) [] (En.nmT (En.hdT (l, b)))).1⟩, (Oct.rows Oct.stepB Oct.badS Oct.lenS (Oct.numV (Oct.bytT l)) [] (En.nmT (En.hdT (l, b)))).2) := rfl
attribute [local irreducible] Oct.numV Oct.numT Oct.numE Oct.bytV Oct.bytT Oct.bytE Oct.rows En.stepT
theorem enAttr (g : Nat) (l : List UInt8) (b : Bool) (hl : l.length ≤ 1000000) : CallsC Try.prog 24 [Is (pAt g 0)] [QX g l b] (fun _ => TAgg (En.cAttr (En.stepT (l, b)).1)) (fun _ => [QX g (En.stepT (l, b)).2.1 (En.stepT (l, b)).2.2]) := by
  rw [stepT_def]
  have c1 := rdNum
  have c2 := rdBytes
  have c3 := rdGoodC
  have h1 := Oct.bytT_le l
  have h2 := Oct.numT_len (Oct.bytT l)
  have pl := Plan.mk' 4 [(0,3,[]),(2,3,[]),(7,3,[]),(1,2,[2]),(3,0,[2]),(4,3,[]),(5,3,[]),(6,0,[]),(8,0,[])]
  refine CallsC.of Try.call24 Try.func24 rfl Try.ntmps24 rfl fun w0 G0 S0 hs ho => ?_
  refine run ?_
  intro v1 v2
  refine HT.loopX (σ := List (List UInt8) × Oct.RS × Value) [0, 2, 3, 4] (fun t => []) (fun t => [QX g t.2.1.1 t.2.1.2, ownP (blk v1) 46 [Is (str []), Is (.slice none 0 0)], ownP (blk v2) 46 [Is (str (Oct.bytV l)), TAnd (Is t.2.2) (TSl 1 En.cS t.1)], ownSl t.2.2 1 9]) (fun t => Oct.rows Oct.stepB Oct.badS Oct.lenS (Oct.numV (Oct.bytT l)) t.1 t.2.1 = Oct.rows Oct.stepB Oct.badS Oct.lenS (Oct.numV (Oct.bytT l)) [] (En.nmT (En.hdT (l, b))) ∧ Oct.Left l.length t.1.length t.2.1) (fun t => Oct.leftN t.2.1) ([], En.nmT (En.hdT (l, b)), .slice none 0 0) ⟨rfl, Oct.Left.start (Nat.le_trans h2 h1)⟩ (run ?_) (run trivial) ?_
  · exact ⟨rfl, rfl⟩
  rintro ⟨acc, ⟨r, e⟩, v⟩ ⟨hr, hlen⟩
  dsimp only at hr hlen ⊢
  have hb := hlen.bd
  have hbr := hlen.bl
  dsimp only at hb hbr
  refine run ?_
  refine ⟨fun v' hc => ?_, fun hc => ?_, fun hc => ?_, fun hc => ?_⟩
  · have hgo := Oct.rows_go Oct.eatsB hc.1 (s := (r, e)) hc.2
    rw [hgo] at hr
    have hlf := hlen.next (s' := (Oct.stepB (r, e)).2) hc.2 (Oct.eatsB.eat (r, e) hc.2) (Oct.bytT_le r)
    refine HX.roundX (acc ++ [Oct.bytV r], (Oct.bytT r, Oct.bytE r e), v') ⟨⟨hr, by dsimp only; rw [List.length_append]; exact hlf.1⟩, hlf.2⟩ rfl (run trivial) (run trivial)
  all_goals
    rw [Oct.rows_end (by intro x; rcases hc with h | h; exact h x.1; exact Bool.noConfusion (h.symm.trans x.2))] at hr
  · exact congrArg (fun x => x.2.1) hr
  · exact congrArg (fun x => x.2.2) hr
  · exact congrArg (fun x => x.1) hr
theorem dec1_def (s : List UInt8) : En.dec1 s = Oct.rows En.stepA Oct.badS Oct.lenS (Oct.numV s) [] (En.nmT (s, false)) := rfl
theorem dec_def (s : List UInt8) : En.dec s = Oct.rows En.stepT Oct.badS Oct.lenS (Oct.numV (En.dec1 s).2.1) [] (En.nmT (En.dec1 s).2) := rfl
theorem decN_def (s : List UInt8) : En.decN s = ⟨(En.dec1 s).1, (En.dec s).1⟩ := rfl
theorem okD_no {s : List UInt8} (h : En.isN (En.decN s) = false ∨ ¬ En.encB (En.decN s) = s) : En.okD s = false := by
  unfold En.okD
  rcases h with h | h
  · rw [h]; rfl
  · rw [decide_eq_false h]; simp
theorem okD_yes {s : List UInt8} (h : En.isN (En.decN s) = true ∧ En.encB (En.decN s) = s) : En.okD s = true := by
  unfold En.okD
  rw [h.1, decide_eq_true h.2]; rfl
attribute [local irreducible] Dn.typB Dn.isE Dn.okA En.okT En.isN Oct.bytB En.avaB En.attrB En.encB En.dec1 En.dec En.decN En.okD
set_option maxRecDepth 8000 in
set_option maxHeartbeats 4000000 in
theorem enDecode (s : List UInt8) (hl : s.length ≤ 1000000) : CFn Try.prog 6 [Is (str s)] (TTup [TAgg (En.cEnt (if En.okD s = true then En.decN s else En.empE)), okI .i64 (if En.okD s = true then 0 else 3)]) := by
  have c0 := rdNew
  have c1 := rdNum
  have c2 := rdBytes
  have c3 := rdGoodC
  have c4 := enAttr
  have h1 := Oct.numT_len s
  have pl1 := Plan.mk' 5 [(0,3,[]),(2,3,[]),(5,3,[]),(1,2,[1]),(3,0,[1]),(4,3,[]),(6,0,[1]),(7,3,[]),(8,3,[]),(9,3,[]),(10,0,[]),(11,3,[]),(12,0,[])]
  have pl2 := Plan.mk' 8 [(0,3,[]),(2,3,[]),(1,2,[1]),(3,0,[1]),(4,3,[]),(5,0,[]),(6,3,[]),(7,0,[])]
  refine CallsC.of Try.call6 Try.func6 rfl Try.ntmps6 rfl fun w0 G0 S0 hs ho => ?_
  refine run ?_
  intro v1 v2 v3
  refine HT.loopX (σ := List Dn.Ava × Oct.RS × Value) [0, 2, 3, 4, 5, 6] (fun t => []) (fun t => [ownP (blk v1) 25 [Is (.slice none 0 0), Is (.slice none 0 0)], ownP (blk v2) 25 [TAnd (Is t.2.2) (TSl 2 Dn.cAva t.1), Is (.slice none 0 0)], QX (blk v3) t.2.1.1 t.2.1.2, ownSl t.2.2 2 53]) (fun t => Oct.rows En.stepA Oct.badS Oct.lenS (Oct.numV s) t.1 t.2.1 = En.dec1 s ∧ Oct.Left s.length t.1.length t.2.1) (fun t => Oct.leftN t.2.1) ([], En.nmT (s, false), .slice none 0 0) ⟨(dec1_def s).symm, Oct.Left.start h1⟩ (run ?_) (run trivial) ?_
  · exact ⟨rfl, rfl⟩
  rintro ⟨acc, ⟨r, e⟩, v⟩ ⟨hr, hlen⟩
  dsimp only at hr hlen ⊢
  have hb := hlen.bd
  have hbr := hlen.bl
  dsimp only at hb hbr
  have hb1 := Oct.bytT_le r
  refine run ?_
  refine ⟨fun v' hc => ?_, fun hc => ?_⟩
  · have hgo := Oct.rows_go En.eatsA hc.1 (s := (r, e)) hc.2
    rw [hgo] at hr
    have hlf := hlen.next (s' := (En.stepA (r, e)).2) hc.2 (En.eatsA.eat (r, e) hc.2) (Nat.le_trans (Oct.bytT_le _) (Oct.bytT_le r))
    refine HX.roundX (acc ++ [⟨Oct.bytV r, Oct.bytV (Oct.bytT r)⟩], (Oct.bytT (Oct.bytT r), Oct.bytE (Oct.bytT r) (Oct.bytE r e)), v') ⟨⟨hr, by dsimp only; rw [List.length_append]; exact hlf.1⟩, hlf.2⟩ rfl (run trivial) (run trivial)
  have hd1 : En.dec1 s = (acc, (r, e)) := by
    rw [← hr, Oct.rows_end (by intro x; rcases hc with h | h; exact h x.1; exact Bool.noConfusion (h.symm.trans x.2))]
  have h2 := Oct.numT_len r
  refine HT.loopX (σ := List En.Attr × Oct.RS × Value) [0, 2, 3, 4, 5, 7] (fun t => []) (fun t => [ownP (blk v1) 25 [Is (.slice none 0 0), Is (.slice none 0 0)], ownP (blk v2) 25 [TAnd (Is v) (TSl 2 Dn.cAva acc), TAnd (Is t.2.2) (TSl 2 En.cAttr t.1)], QX (blk v3) t.2.1.1 t.2.1.2, ownSl t.2.2 2 46]) (fun t => Oct.rows En.stepT Oct.badS Oct.lenS (Oct.numV r) t.1 t.2.1 = En.dec s ∧ Oct.Left s.length t.1.length t.2.1) (fun t => Oct.leftN t.2.1) ([], En.nmT (r, e), .slice none 0 0) ⟨by rw [dec_def, hd1], Oct.Left.start (Nat.le_trans h2 hbr)⟩ (run ?_) (run trivial) ?_
  · exact ⟨rfl, rfl⟩
  rintro ⟨bcc, ⟨q, f⟩, u⟩ ⟨hq1, hqlen⟩
  dsimp only at hq1 hqlen ⊢
  have hqb := hqlen.bd
  have hqbr := hqlen.bl
  dsimp only at hqb hqbr
  refine run ?_
  refine ⟨fun v' hc => ?_, fun hc => ?_⟩
  · have hgo := Oct.rows_go En.eatsT hc.1 (s := (q, f)) hc.2
    rw [hgo] at hq1
    have hlf := hqlen.next (s' := (En.stepT (q, f)).2) hc.2 (En.eatsT.eat (q, f) hc.2) (En.stepT_le (q, f))
    exact HX.roundX (bcc ++ [(En.stepT (q, f)).1], (En.stepT (q, f)).2, v') ⟨⟨hq1, by dsimp only; rw [List.length_append]; exact hlf.1⟩, hlf.2⟩ rfl (run trivial) (run trivial)
  have hd2 : En.dec s = (bcc, (q, f)) := by
    rw [← hq1, Oct.rows_end (by intro x; rcases hc with h | h; exact h x.1; exact Bool.noConfusion (h.symm.trans x.2))]
  have hdn : En.decN s = ⟨acc, bcc⟩ := by rw [decN_def, hd1, hd2]
  have hsn := En.decN_sane hl
  have c5 := enEncode (En.decN s) hsn
  have hk1 := okD_no (s := s)
  have hk2 := okD_yes (s := s)
  rw [hdn] at c5 hk1 hk2 ⊢
  clear c0 c1 c2 c3 c4
  by_cases hN : En.isN ⟨acc, bcc⟩ = true
  · rw [if_pos hN, if_pos hN] at c5
    by_cases hE : En.encB ⟨acc, bcc⟩ = s
    · rw [hE] at c5
      rw [hk2 ⟨hN, hE⟩, if_pos rfl, if_pos rfl]
      refine run ?_
      exact ⟨fun h => absurd rfl h, fun h => absurd rfl h, fun h => absurd rfl h⟩
    · rw [hk1 (.inr hE), if_neg (by simp), if_neg (by simp)]
      refine run ?_
      exact ⟨fun _ => rfl, fun _ => rfl, fun h => (h hE).elim, fun h => (h hE).elim, fun h => (h hE).elim⟩
  · rw [if_neg hN, if_neg hN] at c5
    rw [hk1 (.inl (by simpa using hN)), if_neg (by simp), if_neg (by simp)]
    refine run ?_
    exact ⟨fun _ => rfl, fun _ => rfl⟩
end Go.Proofs.Ytibabbepnhpaiaa
