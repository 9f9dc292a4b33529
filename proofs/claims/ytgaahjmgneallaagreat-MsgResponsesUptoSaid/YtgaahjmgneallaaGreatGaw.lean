/-
  A message that is cut short, and one with something behind: the plain law, the contract of the law MsgCuts.
  The contract of the law MsgBack.
-/
import Derived.Test.YtgaahjmgneallaaGreatGav
set_option linter.unusedSimpArgs false
set_option linter.unusedVariables false
set_option linter.unusedVariables false
namespace Go.Ms
open Go.Vk
theorem frame_A {x : UInt8} (r : List UInt8) (h : x.toNat < 128) : frameB (48 :: x :: r) = frEnd (48 :: x :: r) 2 (x.toNat : Int) := frame_3 rfl (by simp) h
theorem frame_B (y : UInt8) (r : List UInt8) : frameB (48 :: 129 :: y :: r) = frEnd (48 :: 129 :: y :: r) 3 (y.toNat : Int) := by
  have e : frLong (48 :: 129 :: y :: r) 1 = (y.toNat : Int) := by
    unfold frLong
    simp [Ber.be]
  have h := frame_6 (b := 48 :: 129 :: y :: r) rfl (by simp) (by simp) (by simp) (by simp)
  simp only [List.getD_cons_succ, List.getD_cons_zero] at h
  rw [h]
  show frEnd _ 3 (frLong _ 1) = _
  rw [e]
theorem frame_C (y z : UInt8) (r : List UInt8) : frameB (48 :: 130 :: y :: z :: r) = frEnd (48 :: 130 :: y :: z :: r) 4 ((y.toNat : Int) * 256 + (z.toNat : Int)) := by
  have e : frLong (48 :: 130 :: y :: z :: r) 2 = (y.toNat : Int) * 256 + (z.toNat : Int) := by
    unfold frLong
    simp [Ber.be]
  have h := frame_6 (b := 48 :: 130 :: y :: z :: r) rfl (by simp) (by simp) (by simp) (by simp)
  simp only [List.getD_cons_succ, List.getD_cons_zero] at h
  rw [h]
  show frEnd _ 4 (frLong _ 2) = _
  rw [e]
theorem frame_B0 : frameB [48, 129] = (0, 0) := by decide +kernel
theorem frame_C0 : frameB [48, 130] = (0, 0) := by decide +kernel
theorem frame_C1 (y : UInt8) : frameB [48, 130, y] = (0, 0) := frame_5 rfl (by simp) (by simp) (by simp) (by simp)
/-- A message's bytes, by how long its body is. -/
theorem tag48 (l : List UInt8) (hn : l.length < 65536) : (l.length < 128 ∧ Ber.tagB 48 [l] = 48 :: b8 (l.length : Int) :: l) ∨ (128 ≤ l.length ∧ l.length < 256 ∧ Ber.tagB 48 [l] = 48 :: 129 :: b8 (l.length : Int) :: l) ∨ (256 ≤ l.length ∧ Ber.tagB 48 [l] = 48 :: 130 :: b8 ((l.length : Int) / 256) :: b8 (l.length : Int) :: l) := by
  rw [Ber.tagB_one]
  by_cases h1 : l.length < 128
  · rw [Ber.lenB_1 _ (by omega)]; exact .inl ⟨h1, rfl⟩
  by_cases h2 : l.length < 256
  · rw [Ber.lenB_2 _ (by omega)]; exact .inr (.inl ⟨by omega, h2, rfl⟩)
  · rw [Ber.lenB_3 _ (by omega)]; exact .inr (.inr ⟨by omega, rfl⟩)
theorem frame_all (l rest : List UInt8) (h : (Ber.tagB 48 [l]).length ≤ 65536) (hn : l.length < 65536) : frameB (Ber.tagB 48 [l] ++ rest) = (((Ber.tagB 48 [l]).length : Int), 0) := by
  rcases tag48 l hn with ⟨h1, e⟩ | ⟨h1, h2, e⟩ | ⟨h1, e⟩
  · have hb := b8_toNat (l.length : Int)
    rw [e] at h ⊢
    rw [List.cons_append, List.cons_append, frame_A _ (by omega)]
    simp only [List.length_cons] at h ⊢
    rw [frEnd_1 (by omega) (by simp only [List.length_cons, List.length_append]; omega)]
    rw [show ((b8 (l.length : Int)).toNat : Int) = (l.length : Int) by omega]
    congr 1; omega
  · have hb := b8_toNat (l.length : Int)
    rw [e] at h ⊢
    rw [List.cons_append, List.cons_append, List.cons_append, frame_B]
    simp only [List.length_cons] at h ⊢
    rw [frEnd_1 (by omega) (by simp only [List.length_cons, List.length_append]; omega)]
    rw [show ((b8 (l.length : Int)).toNat : Int) = (l.length : Int) by omega]
    congr 1; omega
  · have hb := b8_toNat (l.length : Int)
    have hb2 := b8_toNat ((l.length : Int) / 256)
    have he : ((b8 ((l.length : Int) / 256)).toNat : Int) * 256 + ((b8 (l.length : Int)).toNat : Int) = (l.length : Int) := by omega
    rw [e] at h ⊢
    rw [List.cons_append, List.cons_append, List.cons_append, List.cons_append, frame_C, he]
    simp only [List.length_cons] at h ⊢
    rw [frEnd_1 (by omega) (by simp only [List.length_cons, List.length_append]; omega)]
    congr 1; omega
theorem frame_cut (l : List UInt8) (h : (Ber.tagB 48 [l]).length ≤ 65536) (hn : l.length < 65536) (k : Nat) (hk : k < (Ber.tagB 48 [l]).length) : frameB ((Ber.tagB 48 [l]).take k) = (0, 0) := by
  match k with
  | 0 => rfl
  | 1 =>
    rw [Ber.tagB_one]
    show frameB [48] = _
    decide +kernel
  | k + 2 =>
    rcases tag48 l hn with ⟨h1, e⟩ | ⟨h1, h2, e⟩ | ⟨h1, e⟩
    · have hb := b8_toNat (l.length : Int)
      rw [e] at h hk ⊢
      simp only [List.length_cons] at h hk
      rw [List.take_succ_cons, List.take_succ_cons, frame_A _ (by omega)]
      rw [frEnd_0 (by omega) (by simp only [List.length_cons, List.length_take]; omega)]
    · have hb := b8_toNat (l.length : Int)
      rw [e] at h hk ⊢
      simp only [List.length_cons] at h hk
      rw [List.take_succ_cons, List.take_succ_cons]
      cases k with
      | zero => exact frame_B0
      | succ k =>
        rw [List.take_succ_cons, frame_B]
        rw [frEnd_0 (by omega) (by simp only [List.length_cons, List.length_take]; omega)]
    · have hb := b8_toNat (l.length : Int)
      have hb2 := b8_toNat ((l.length : Int) / 256)
      have he : ((b8 ((l.length : Int) / 256)).toNat : Int) * 256 + ((b8 (l.length : Int)).toNat : Int) = (l.length : Int) := by omega
      rw [e] at h hk ⊢
      simp only [List.length_cons] at h hk
      rw [List.take_succ_cons, List.take_succ_cons]
      cases k with
      | zero => exact frame_C0
      | succ k =>
        cases k with
        | zero => exact frame_C1 _
        | succ k =>
          rw [List.take_succ_cons, List.take_succ_cons, frame_C, he]
          rw [frEnd_0 (by omega) (by simp only [List.length_cons, List.length_take]; omega)]
theorem reqB_one (r : Req) : reqB r = Ber.tagB 48 [Ber.tagB 2 [Ber.intB r.num] ++ opB r] := by
  have h := tag_flat 48 [Ber.tagB 2 [Ber.intB r.num], opB r]
  rw [show [Ber.tagB 2 [Ber.intB r.num], opB r].flatten = Ber.tagB 2 [Ber.intB r.num] ++ opB r by simp] at h
  exact h.symm
theorem reqB_body {r : Req} (h : (reqB r).length ≤ 65536) : (Ber.tagB 2 [Ber.intB r.num] ++ opB r).length < 65536 := by
  rw [reqB_one, Ber.tagB_one] at h
  simp only [List.length_cons, List.length_append] at h ⊢
  omega
theorem req_frame {r : Req} (h : (reqB r).length ≤ 65536) (rest : List UInt8) : frameB (reqB r ++ rest) = (((reqB r).length : Int), 0) := by
  have hb := reqB_body h
  rw [reqB_one] at h ⊢
  exact frame_all _ _ h hb
theorem req_cut {r : Req} (h : (reqB r).length ≤ 65536) {k : Nat} (hk : k < (reqB r).length) : frameB ((reqB r).take k) = (0, 0) := by
  have hb := reqB_body h
  rw [reqB_one] at h hk ⊢
  exact frame_cut _ h hb k hk
theorem reqB_pos (r : Req) : 2 ≤ (reqB r).length := by
  rw [reqB_one]
  generalize Ber.tagB 2 [Ber.intB r.num] ++ opB r = l
  rw [Ber.tagB_one]
  have : 1 ≤ (Ber.lenB (l.length : Int)).length := by unfold Ber.lenB; split <;> simp
  simp only [List.length_cons, List.length_append]
  omega
theorem isR_len {r : Req} (h : isR r = true) : (reqB r).length ≤ 65536 := by
  unfold isR at h
  rw [Bool.and_eq_true, decide_eq_true_eq] at h
  exact h.2
end Go.Ms
set_option maxRecDepth 8000
set_option linter.unusedVariables false
namespace Go.Proofs.YtgaahjmgneallaaGreat
open Go.Vk
attribute [local irreducible] HT HX RegS RegA RegM OpP OpC AltT
attribute [local irreducible] Ber.tagB Ber.lenB Ber.intB Ms.textB Ms.wV Ms.wF Ms.filB Ms.piecesB Ms.tagF Fi.isF Fi.wt Ms.wM Ms.wA Ms.textsB Ms.modsB Ms.attrsB Ms.opB Ms.isR Ms.reqB Ms.heavyB Ms.frameB
theorem opnBytesU (N : Nat) : OpnU N Tryz.prog 26 (cL 1 cB) (fun _ => True) (fun l => l.length + 1) := by
  have h := OpnU.slice (OpnU.byte (N := N) (P := Tryz.prog) Tryz.underlying5 (by kernel_rfl)) Tryz.underlying26 (by kernel_rfl) (by kernel_rfl)
  rw [show Tryz.prog.cellsOf 5 = 1 by kernel_rfl] at h
  refine (h.less (Nat.le_succ N)).map id (fun l => by rw [show Tryz.prog.cellsOf 26 = 1 by kernel_rfl]; rfl) (fun _ => rfl) (fun _ _ => trivial) (fun l => ?_)
  have : ∀ m : List UInt8, (m.map (fun _ : UInt8 => 1)).sum = m.length := fun m => by induction m with
    | nil => rfl
    | cons a r ih => rw [List.map_cons, List.sum_cons, ih, List.length_cons]; omega
  have e := this l
  show l.length + 1 ≤ _
  omega
end Go.Proofs.YtgaahjmgneallaaGreat
set_option linter.unusedVariables false
set_option maxRecDepth 8000
set_option linter.unusedVariables false
namespace Go.Proofs.YtgaahjmgneallaaGreat
open Go.Vk
attribute [local irreducible] HT HX RegS RegA RegM OpP OpC AltT
attribute [local irreducible] Ber.tagB Ber.lenB Ber.intB Ms.textB Ms.wV Ms.wF Ms.filB Ms.piecesB Ms.tagF Fi.isF Fi.wt Ms.wM Ms.wA Ms.textsB Ms.modsB Ms.attrsB Ms.opB Ms.isR Ms.reqB Ms.heavyB Ms.frameB Ms.decP
set_option maxHeartbeats 4000000 in
theorem lwBack25 (r : Ms.Req) (hr : Ms.Okq r) : CFn Tryz.prog 7 [TAgg (Ms.cReq r)] (Is (.bool true)) := by
  have c0 := lwHeavy25 r hr
  have c9 := lwKnown25
  cases h : Ms.heavyB r with
  | true =>
    rw [h] at c0
    have su := Sure.mk' [12, 13]
    clear hr
    refine CallsC.of Tryz.call7 Tryz.func7 rfl Tryz.ntmps7 rfl fun w0 G0 S0 hs ho => ?_
    exact run trivial
  | false =>
    have ha := Ms.okr_of hr h
    rw [h] at c0
    have c2 := rfIs25 r ha
    cases hi : Ms.isR r with
    | false =>
      rw [hi] at c2
      clear hr ha
      refine CallsC.of Tryz.call7 Tryz.func7 rfl Tryz.ntmps7 rfl fun w0 G0 S0 hs ho => ?_
      exact run trivial
    | true =>
      rw [hi] at c2
      have c3 := msEncode r ha
      rw [hi] at c3
      simp only [reduceIte] at c3
      have h1 := Ms.isR_len hi
      have c4 := msDecode (Ms.reqB r) (by omega)
      rw [Ms.dec_reqB hi] at c4
      have c5 := msFrame (Ms.reqB r ++ []) (by rw [List.length_append, List.length_nil]; omega)
      rw [Ms.req_frame h1, List.append_nil] at c5
      have c6 := rfSame25 r r ha
      rw [decide_eq_true rfl] at c6
      dsimp only at c4 c5
      clear hr ha
      refine CallsC.of Tryz.call7 Tryz.func7 rfl Tryz.ntmps7 rfl fun w0 G0 S0 hs ho => ?_
      exact run trivial
end Go.Proofs.YtgaahjmgneallaaGreat
