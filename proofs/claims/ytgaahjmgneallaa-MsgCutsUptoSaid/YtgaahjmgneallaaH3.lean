/-
  MsgCuts: a message that is cut short is no message yet, wherever it is cut, and the same whatever stands behind; where the arguments hold together at most 1048576 values and letters.
-/
import Derived.Test.YtgaahjmgneallaaRows
import Derived.Test.YtgaahjmgneallaaGar
import Derived.WalkKit
import Derived.ProofKit
import Derived.OpenShut
import Derived.ShutString
import Derived.ChangeOld
import Derived.Below
import Derived.SizedLaws
import Derived.JoinedCond
import Derived.Deep.CondSized
set_option linter.unusedSimpArgs false
set_option linter.unusedVariables false
namespace Go.Proofs.Ytgaahjmgneallaa.msgCutsUpto
open Go.ChangeShapes Go.WideShapes Go.ChangeAt Go.RowKit
set_option linter.unusedVariables false

theorem own : ownKnob Try.prog.godebug = none := by kernel_rfl
theorem laidOut : laidOutB Try.prog = true := by kernel_rfl

set_option maxRecDepth 100000 in
theorem lifted (os : Os) (started : os.Started) (H : Type) (enc : TypeId × Value → H) (F : Stop.Interp) :
    ReturnsInHanded {} Try.checked os 5 .any ((Rows.OpenSpec.upto Rows.msgCutsSpec).pre6 enc Try.prog Try.f5 Rows.msgCutsUptoRow.domain false) (((Rows.OpenSpec.upto Rows.msgCutsSpec).at F).post enc Try.prog Try.f5 false true false false) := by
  refine returnsInHanded_of_cond_sized (C := Try.checked) (s := Rows.OpenSpec.upto Rows.msgCutsSpec) (k := Rows.uptoSmall) rfl own started (by kernel_rfl) Try.func5
    (OpenSpec.witness (enc := enc) (C := Try.checked) (s := Rows.OpenSpec.upto Rows.msgCutsSpec) (k := Rows.uptoSmall) rfl false ⟨#[], #[.agg #[.int .i64 0, .int .i64 0, .string ByteArray.empty, .string ByteArray.empty, .int .i64 0, .int .i64 0, .int .i64 0, .string ByteArray.empty, .string ByteArray.empty, .slice none 0 0, .slice none 0 0, .slice none 0 0, .slice none 0 0, .slice none 0 0, .string ByteArray.empty, .bool false, .bool false, .string ByteArray.empty, .string ByteArray.empty, .string ByteArray.empty, .int .i64 0], .int .i64 0, .slice none 0 0], []⟩ 8 (by kernel_rfl) (by kernel_rfl) (by kernel_rfl)
      (x := ([.agg [.lit (.int .i64 0), .lit (.int .i64 0), .lit (.string []), .lit (.string []), .lit (.int .i64 0), .lit (.int .i64 0), .agg [.lit (.int .i64 0), .lit (.string []), .lit (.string []), .nil, .nil], .nil, .nil, .nil, .lit (.string []), .lit (.bool false), .lit (.bool false), .lit (.string []), .agg [.lit (.string []), .lit (.string [])], .lit (.int .i64 0)], .lit (.int .i64 0), .nil], [], [])) (by kernel_rfl) rfl (by kernel_rfl)) ?_
  intro W base args ds gs before hval0 hW hcnd hk0 hreach0 _
  have hval : ∀ (j : Nat) t v, Try.f5.params[j]? = some t → args[j]? = some v → Value.okWide Try.prog W .any base t v := hval0
  have hreach : (DataW.weightsEach Try.prog (Try.f5.params.toList ++ Rows.msgCutsSpec.plain.varTypes Try.prog) (ds ++ gs)).all (· ≤ reachBytes) = true := hreach0
  have hW' := hW
  obtain ⟨p, q, hA0, hV, rfl, hfz, hnd⟩ := hW
  have hA : DataW.TrodAll enc Try.prog W 0 (fun _ => true) true Try.f5.params.toList args.toList ds p := hA0
  rw [Try.params5] at hA hval hreach
  obtain ⟨v0, vs0, d0, ds0, p0, q0, hargs, rfl, rfl, h0, r0⟩ := trodAll_cons hA
  obtain ⟨v1, vs1, d1, ds1, p1, q1, rfl, rfl, rfl, h1, r1⟩ := trodAll_cons r0
  obtain ⟨v2, vs2, d2, ds2, p2, q2, rfl, rfl, rfl, h2, r2⟩ := trodAll_cons r1
  obtain ⟨rfl, rfl, rfl⟩ := trodAll_nil r2
  obtain rfl : args = #[v0, v1, v2] := by cases args; simp_all
  obtain ⟨rfl, rfl⟩ := trodVars_none hV
  have lt0 : ∀ x ∈ p0, x.block < W.heap.size := by obtain ⟨m, hm⟩ := h0; exact DataW.trod_lt m _ _ _ hm
  have ww0 : ∀ n ∈ d0.weights Try.prog 31, n ≤ reachBytes := Go.Vk.weights_at (j := 0) hreach rfl rfl
  obtain ⟨x0, k0, g0⟩ := Go.Proofs.Ytgaahjmgneallaa.OpnU.ag opnReqU Try.underlying31 (hval 0 31 v0 rfl rfl) h0 ww0
  have kb0 := Nat.le_trans k0.2 (Go.Proofs.Ytgaahjmgneallaa.bulk_at (j := 0) hk0 rfl)
  have lt1 : ∀ x ∈ p1, x.block < W.heap.size := by obtain ⟨m, hm⟩ := h1; exact DataW.trod_lt m _ _ _ hm
  have ww1 : ∀ n ∈ d1.weights Try.prog 3, n ≤ reachBytes := Go.Vk.weights_at (j := 1) hreach rfl rfl
  obtain ⟨x1, e1⟩ := okWide_int Try.underlying3 (hval 1 3 v1 rfl rfl)
  obtain ⟨x1, k1, g1⟩ := Go.Proofs.Ytgaahjmgneallaa.OpnU.one (T := fun n => Go.Vk.okI .i64 n) (fun _ => Go.Proofs.Ytgaahjmgneallaa.OpnU.int Try.underlying3 (by kernel_rfl)) (by rw [e1]; rfl) h1 ww1
  have kb1 := Nat.le_trans k1.2 (Go.Proofs.Ytgaahjmgneallaa.bulk_at (j := 1) hk0 rfl)
  have lt2 : ∀ x ∈ p2, x.block < W.heap.size := by obtain ⟨m, hm⟩ := h2; exact DataW.trod_lt m _ _ _ hm
  have ww2 : ∀ n ∈ d2.weights Try.prog 33, n ≤ reachBytes := Go.Vk.weights_at (j := 2) hreach rfl rfl
  obtain ⟨x2, k2, g2⟩ := Go.Proofs.Ytgaahjmgneallaa.OpnU.sl opnBytesU Try.underlying33 (hval 2 33 v2 rfl rfl) h2 ww2
  have kb2 := Nat.le_trans k2.2 (Go.Proofs.Ytgaahjmgneallaa.bulk_at (j := 2) hk0 rfl)
  refine (Go.Vk.law_of (lwCuts x0 x1 x2 (Ms.okq_of k0.1 kb0) (by have := kb2; omega)) [v0, v1, v2] W ⟨g0, g1, g2, trivial⟩).mono fun e W' ⟨he, bel⟩ => ?_
  subst he
  exact ⟨_, rfl, _, _, _, [], _, [], hW', trodAll_mk1 (shut_bool Try.underlying4 _), (trodAll_cons_mk (Below.trod laidOut (by kernel_rfl) (of_decide_eq_true (by kernel_rfl)) h0 bel lt0) (trodAll_cons_mk (Below.trod laidOut (by kernel_rfl) (of_decide_eq_true (by kernel_rfl)) h1 bel lt1) (trodAll_cons_mk (Below.trod laidOut (by kernel_rfl) (of_decide_eq_true (by kernel_rfl)) h2 bel lt2) trodAll_mk0))), rfl, bel.frame _, fun h => by cases h⟩

/-- The statement. -/
theorem proved : Rows.MsgCutsUptoSaid :=
  OpenClaim.holds_of_cond 5 Try.f5 rfl rfl rfl rfl rfl rfl rfl ⟨rfl, rfl, rfl, rfl, rfl⟩ rfl rfl rfl rfl rfl (by kernel_rfl) Try.func5 (by kernel_rfl)
    (of_decide_eq_true (by kernel_rfl)) (by unfold Func.isWrapper; first | (rw [if_pos (by decide +kernel)]; kernel_rfl) | (rw [if_neg (by decide +kernel)]; exact ⟨rfl, rfl⟩))
    (fun os started H enc _ F => lifted os started H enc F)
#print axioms proved
end Go.Proofs.Ytgaahjmgneallaa.msgCutsUpto
