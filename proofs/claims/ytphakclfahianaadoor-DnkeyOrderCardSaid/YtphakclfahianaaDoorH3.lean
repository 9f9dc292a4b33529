/-
  The tied card of DnkeyOrder: the order of names as keys.
-/
import Derived.Test.YtphakclfahianaaDoorRows
import Derived.Test.YtphakclfahianaaDoorGan
import Derived.Test.YtphakclfahianaaDoorGam
import Derived.WalkKit
import Derived.ProofKit
import Derived.OpenShut
import Derived.ShutString
import Derived.ChangeOld
import Derived.Below
import Derived.SizedLaws
import Derived.Test.YtphakclfahianaaDoorCards
import Derived.Test.YtphakclfahianaaDoorTie
import Derived.LaidMore
import Derived.Lay
import Derived.SevenTiedAt
import Derived.Stop.Joined
set_option linter.unusedSimpArgs false
set_option linter.unusedVariables false
namespace Go.Proofs.YtphakclfahianaaDoor.dnkeyOrder
open Go.ChangeShapes Go.WideShapes Go.ChangeAt Go.RowKit
set_option linter.unusedVariables false

theorem own : ownKnob Tryd.prog.godebug = none := by kernel_rfl
theorem laidOut : laidOutB Tryd.prog = true := by kernel_rfl

set_option maxRecDepth 100000 in
theorem lifted (os : Os) (started : os.Started) (H : Type) (enc : TypeId × Value → H) :
    ReturnsInHanded {} Tryd.checked os 3 .any (fun w args => (Rows.dnkeyOrderSpec.pre enc Tryd.prog Tryd.f3 Rows.dnkeyOrderRow.domain false w args ∧ laidMetH Tryd.prog Rows.dnkeyOrderRow.laid w) ∧ sizedMet enc Tryd.prog Tryd.f3 (OpenSpec.ofChange Rows.dnkeyOrderSpec) false w args)
      (Rows.dnkeyOrderSpec.post enc Tryd.prog Tryd.f3 false true false false) := by
  refine Go.Vk.handed_shaped_and (C := Tryd.checked) (X := fun w _ => laidMetH Tryd.prog Rows.dnkeyOrderRow.laid w) own started (by kernel_rfl) Tryd.func3
    (ChangeSpec.witness_shaped (enc := enc) (C := Tryd.checked) (os := os) (X := fun w _ => laidMetH Tryd.prog Rows.dnkeyOrderRow.laid w) false (World.laidAll Tryd.prog os Rows.dnkeyOrderRow.laid) #[.slice none 0 0, .slice none 0 0, .slice none 0 0, .slice none 0 0] 8 (World.laidAll_os _ _ _)
      (World.shaped_of_ZipB (by kernel_rfl) (by kernel_rfl)) (by kernel_rfl) (by kernel_rfl) (by kernel_rfl)
      (by rw [MakeChecks.laidMetH_plain _ _ _ (by kernel_rfl)]; exact laidMet_laidAll _ (by kernel_rfl) (by kernel_rfl))) ?_
  intro W base args ds gs before hval0 hW hreach0 hsh
  have hval : ∀ (j : Nat) t v, Tryd.f3.params[j]? = some t → args[j]? = some v → Value.okWide Tryd.prog W .any base t v := hval0
  have hreach : (DataW.weightsEach Tryd.prog (Tryd.f3.params.toList ++ Rows.dnkeyOrderSpec.plain.varTypes Tryd.prog) (ds ++ gs)).all (· ≤ reachBytes) = true := hreach0
  have hW' := hW
  obtain ⟨p, q, hA0, hV, rfl, hfz, hnd⟩ := hW
  have hA : DataW.TrodAll enc Tryd.prog W 0 (fun _ => true) true Tryd.f3.params.toList args.toList ds p := hA0
  rw [Tryd.params3] at hA hval hreach
  obtain ⟨v0, vs0, d0, ds0, p0, q0, hargs, rfl, rfl, h0, r0⟩ := trodAll_cons hA
  obtain ⟨v1, vs1, d1, ds1, p1, q1, rfl, rfl, rfl, h1, r1⟩ := trodAll_cons r0
  obtain ⟨v2, vs2, d2, ds2, p2, q2, rfl, rfl, rfl, h2, r2⟩ := trodAll_cons r1
  obtain ⟨v3, vs3, d3, ds3, p3, q3, rfl, rfl, rfl, h3, r3⟩ := trodAll_cons r2
  obtain ⟨rfl, rfl, rfl⟩ := trodAll_nil r3
  obtain rfl : args = #[v0, v1, v2, v3] := by cases args; simp_all
  obtain ⟨rfl, rfl⟩ := trodVars_none hV
  have lt0 : ∀ x ∈ p0, x.block < W.heap.size := by obtain ⟨m, hm⟩ := h0; exact DataW.trod_lt m _ _ _ hm
  have ww0 : ∀ n ∈ d0.weights Tryd.prog 22, n ≤ reachBytes := Go.Vk.weights_at (j := 0) hreach rfl rfl
  obtain ⟨x0, k0, g0⟩ := Go.Vk.Opn.sl opnAvas Tryd.underlying22 (hval 0 22 v0 rfl rfl) h0 ww0
  have lt1 : ∀ x ∈ p1, x.block < W.heap.size := by obtain ⟨m, hm⟩ := h1; exact DataW.trod_lt m _ _ _ hm
  have ww1 : ∀ n ∈ d1.weights Tryd.prog 22, n ≤ reachBytes := Go.Vk.weights_at (j := 1) hreach rfl rfl
  obtain ⟨x1, k1, g1⟩ := Go.Vk.Opn.sl opnAvas Tryd.underlying22 (hval 1 22 v1 rfl rfl) h1 ww1
  have lt2 : ∀ x ∈ p2, x.block < W.heap.size := by obtain ⟨m, hm⟩ := h2; exact DataW.trod_lt m _ _ _ hm
  have ww2 : ∀ n ∈ d2.weights Tryd.prog 22, n ≤ reachBytes := Go.Vk.weights_at (j := 2) hreach rfl rfl
  obtain ⟨x2, k2, g2⟩ := Go.Vk.Opn.sl opnAvas Tryd.underlying22 (hval 2 22 v2 rfl rfl) h2 ww2
  have lt3 : ∀ x ∈ p3, x.block < W.heap.size := by obtain ⟨m, hm⟩ := h3; exact DataW.trod_lt m _ _ _ hm
  have ww3 : ∀ n ∈ d3.weights Tryd.prog 22, n ≤ reachBytes := Go.Vk.weights_at (j := 3) hreach rfl rfl
  obtain ⟨x3, k3, g3⟩ := Go.Vk.Opn.sl opnAvas Tryd.underlying22 (hval 3 22 v3 rfl rfl) h3 ww3
  refine (Go.Vk.law_ofG (lwOrder19 x0 x1 x2 x3 k0.1 k0.2 k1.1 k1.2 k2.1 k2.2 k3.1 k3.2) [v0, v1, v2, v3] W (maxLenCell W hsh) ⟨g0, g1, g2, g3, trivial⟩).mono fun e W' ⟨he, bel⟩ => ?_
  subst he
  exact ⟨_, rfl, _, _, _, [], _, [], hW', trodAll_mk1 (shut_bool Tryd.underlying4 _), (trodAll_cons_mk (Below.trod laidOut (by kernel_rfl) (of_decide_eq_true (by kernel_rfl)) h0 bel lt0) (trodAll_cons_mk (Below.trod laidOut (by kernel_rfl) (of_decide_eq_true (by kernel_rfl)) h1 bel lt1) (trodAll_cons_mk (Below.trod laidOut (by kernel_rfl) (of_decide_eq_true (by kernel_rfl)) h2 bel lt2) (trodAll_cons_mk (Below.trod laidOut (by kernel_rfl) (of_decide_eq_true (by kernel_rfl)) h3 bel lt3) trodAll_mk0)))), rfl, bel.frame _, fun h => by cases h⟩

theorem over : Rows.dnkeyOrderRow.holds Tryd.pinned (OpenSpec.ofChange Rows.dnkeyOrderSpec) :=
  OpenClaim.holds_of_wide 3 Tryd.f3 rfl rfl rfl rfl rfl rfl rfl ⟨rfl, rfl, rfl, rfl, rfl⟩ rfl rfl rfl rfl rfl (by kernel_rfl) Tryd.func3 (by kernel_rfl)
    (of_decide_eq_true (by kernel_rfl)) (by unfold Func.isWrapper; first | (rw [if_pos (by decide +kernel)]; kernel_rfl) | (rw [if_neg (by decide +kernel)]; exact ⟨rfl, rfl⟩))
    (fun os started H enc _ => lifted os started H enc)

theorem plain (f : FuncId) (fn : Func) (hf : Tryd.pinned.checked.prog.funcNamed "burgess/burgesslaw19.DnkeyOrder" = some f) (hfn : Tryd.pinned.checked.prog.funcs[f]? = some fn) :
    false = Tryd.pinned.checked.prog.looks [] ∧ ∀ (j : Nat) t, fn.params[j]? = some t → Tryd.pinned.checked.prog.wantsStandIn t = false := by
  obtain rfl : f = 3 := Option.some.inj ((show Tryd.prog.funcNamed "burgess/burgesslaw19.DnkeyOrder" = some 3 by kernel_rfl).symm.trans hf) |>.symm
  obtain rfl : fn = Tryd.f3 := (Option.some.inj (Tryd.func3.symm.trans hfn)).symm
  refine ⟨by kernel_rfl, fun j t ht => ?_⟩
  rw [Tryd.params3] at ht
  have hm : t ∈ [22, 22, 22, 22] := by simpa using Array.mem_of_getElem? ht
  have hall : ([22, 22, 22, 22].all fun u => !Tryd.prog.wantsStandIn u) = true := by kernel_rfl
  exact (show Tryd.prog.wantsStandIn t = false by simpa using List.all_eq_true.1 hall t hm)
/-- The statement: the tied card. -/
theorem proved : Rows.DnkeyOrderCardSaid :=
  Claim7.holds_tied_plain_at .later [] _ _ _ _ over (fun _ h => by cases h) (by kernel_rfl) (fun _ h => by cases h) dnkeyOrder_row_tie rfl ⟨rfl, rfl⟩ (by kernel_rfl) rfl plain (by kernel_rfl)
#print axioms proved
end Go.Proofs.YtphakclfahianaaDoor.dnkeyOrder
