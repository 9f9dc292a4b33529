/-
  The contract of the law MsgTurned.
-/
import Derived.Test.YtgaahjmgneallaaGreatGaw
set_option linter.unusedSimpArgs false
set_option linter.unusedVariables false
set_option linter.unusedVariables false
namespace Go.Ms
open Go.Vk
theorem dec_cut {r : Req} (h : isR r = true) {k : Nat} (hk : k < (reqB r).length) : decP ((reqB r).take k) = (zR, 2) := by
  have hb := reqB_body (isR_len h)
  rw [reqB_one] at hk ⊢
  unfold decP
  rw [Ber.cuts 48 (by decide) _ hb k hk]
  rfl
theorem dec_more {r : Req} (h : isR r = true) {m : List UInt8} (hm : m ≠ []) : decP (reqB r ++ m) = (zR, 3) := by
  have hb := reqB_body (isR_len h)
  rw [reqB_one]
  unfold decP
  rw [Ber.back 48 (by decide) _ m hb]
  simp [hm]
end Go.Ms
set_option maxRecDepth 8000
set_option linter.unusedVariables false
namespace Go.Proofs.YtgaahjmgneallaaGreat
open Go.Vk
attribute [local irreducible] HT HX RegS RegA RegM OpP OpC AltT
attribute [local irreducible] Ber.tagB Ber.lenB Ber.intB Ms.textB Ms.wV Ms.wF Ms.filB Ms.piecesB Ms.tagF Fi.isF Fi.wt Ms.wM Ms.wA Ms.textsB Ms.modsB Ms.attrsB Ms.opB Ms.isR Ms.reqB Ms.heavyB Ms.frameB Ms.decP
set_option maxHeartbeats 4000000 in
theorem lwTurned25 (r : Ms.Req) (m : List UInt8) (hr : Ms.Okq r) (hl : m.length ≤ 1048576) : CFn Tryz.prog 6 [TAgg (Ms.cReq r), TBytes m] (Is (.bool true)) := by
  have c0 := lwHeavy25 r hr
  have c9 := lwKnown25
  cases h : Ms.heavyB r with
  | true =>
    rw [h] at c0
    have su := Sure.mk' [14, 15]
    clear hr
    refine CallsC.of Tryz.call6 Tryz.func6 rfl Tryz.ntmps6 rfl fun w0 G0 S0 hs ho => ?_
    exact run trivial
  | false =>
    have ha := Ms.okr_of hr h
    rw [h] at c0
    have c2 := rfIs25 r ha
    cases hi : Ms.isR r with
    | false =>
      rw [hi] at c2
      clear hr ha
      refine CallsC.of Tryz.call6 Tryz.func6 rfl Tryz.ntmps6 rfl fun w0 G0 S0 hs ho => ?_
      exact run trivial
    | true =>
      rw [hi] at c2
      by_cases hm1 : (m.length : Int) < 1
      · clear hr ha
        refine CallsC.of Tryz.call6 Tryz.func6 rfl Tryz.ntmps6 rfl fun w0 G0 S0 hs ho => ?_
        exact run trivial
      by_cases hm2 : (300 : Int) < (m.length : Int)
      · clear hr ha
        refine CallsC.of Tryz.call6 Tryz.func6 rfl Tryz.ntmps6 rfl fun w0 G0 S0 hs ho => ?_
        exact run trivial
      have c3 := msEncode r ha
      rw [hi] at c3
      simp only [reduceIte] at c3
      have h1 := Ms.isR_len hi
      have h2 := Ms.reqB_pos r
      have hm : m ≠ [] := fun e => by rw [e] at hm1; exact hm1 (by decide)
      have c4 := msDecode ((Ms.reqB r).take (((Ms.reqB r).length : Int) - 1).toNat) (by rw [List.length_take]; omega)
      rw [Ms.dec_cut hi (by omega)] at c4
      have c5 := msDecode (Ms.reqB r ++ m) (by rw [List.length_append]; omega)
      rw [Ms.dec_more hi hm] at c5
      have d5 : CFn Tryz.prog 16 [TBytes (([] ++ Ms.reqB r) ++ m)] (TTup [TAgg (Ms.cReq Ms.zR), okI .i64 3]) := c5
      have hB : (Ms.reqB r).length + m.length ≤ 70000 := by omega
      have hA : ([] ++ Ms.reqB r).length = (Ms.reqB r).length := rfl
      dsimp only at c4 c5
      clear hr ha hm d5
      have mu := Mut.mk' [50]
      refine CallsC.of Tryz.call6 Tryz.func6 rfl Tryz.ntmps6 rfl fun w0 G0 S0 hs ho => ?_
      exact run trivial
end Go.Proofs.YtgaahjmgneallaaGreat
