/-
  The document's answers: length, Tag, Next; what each computes, for every input.
-/
import Derived.Test.YtmfhacngjbhldaaB3
import Derived.Test.YtmfhacngjbhldaaC0
import Derived.Test.YtmfhacngjbhldaaVz
set_option linter.unusedVariables false
namespace Go.Proofs.Ytmfhacngjbhldaa
open Go.Vk
attribute [local irreducible] HT HX RegS RegA RegM OpP OpC
theorem refNext (b : List UInt8) (hl : b.length ≤ 137438953472) : CFn Try.prog 19 [TBytes b] (TTup [okI .u8 ((Ber.nextB b).tag.toNat : Int), TBytes (Ber.nextB b).body, TBytes (Ber.nextB b).rest, okI .i64 (Ber.nextB b).e]) := by
  have hlt := (b.getD 1 0).toNat_lt
  refine CallsC.of Try.call19 Try.func19 rfl Try.ntmps19 rfl fun w0 G0 S0 hs ho => ?_
  refine run ?_
  and_intros
  all_goals intros
  all_goals (first
    | (rw [Ber.nextB_err (Ber.headB_0 (by assumption)) (by decide)]; done)
    | (rw [Ber.nextB_err (Ber.headB_0 (by assumption)) (by decide)]; rfl)
    | (rw [Ber.nextB_err (Ber.headB_31 (by assumption) (by assumption)) (by decide)]; done)
    | (rw [Ber.nextB_err (Ber.headB_31 (by assumption) (by assumption)) (by decide)]; rfl)
    | (rw [Ber.nextB_err (Ber.headB_2 (by assumption) (by assumption) (by assumption)) (by decide)]; done)
    | (rw [Ber.nextB_err (Ber.headB_2 (by assumption) (by assumption) (by assumption)) (by decide)]; rfl)
    | (rw [Ber.nextB_err (Ber.headB_3 (by assumption) (by assumption) (by assumption) (by assumption)) (by decide)]; done)
    | (rw [Ber.nextB_err (Ber.headB_3 (by assumption) (by assumption) (by assumption) (by assumption)) (by decide)]; rfl)
    | (rw [Ber.nextB_err (Ber.headB_4 (by assumption) (by assumption) (by assumption) (by assumption) (by assumption)) (by decide)]; done)
    | (rw [Ber.nextB_err (Ber.headB_4 (by assumption) (by assumption) (by assumption) (by assumption) (by assumption)) (by decide)]; rfl)
    | (rw [Ber.nextB_2 (Ber.headB_b (by assumption) (by assumption) (by assumption)) (by assumption) (by assumption)]; done)
    | (rw [Ber.nextB_2 (Ber.headB_b (by assumption) (by assumption) (by assumption)) (by assumption) (by assumption)]; rfl)
    | (rw [Ber.nextB_ok (Ber.headB_b (by assumption) (by assumption) (by assumption)) (by assumption) (by assumption)]; done)
    | (rw [Ber.nextB_ok (Ber.headB_b (by assumption) (by assumption) (by assumption)) (by assumption) (by assumption)]; rfl)
    | skip)
  have hd5 := Ber.headB_5 (b := b) (by assumption) (by assumption) (by assumption) (by assumption) (by assumption)
  generalize hk : ((b.getD 1 0).toNat : Int) - 128 = k at *
  refine HT.loopX (σ := Nat) [0, 2, 3, 4, 5, 7, 8] (fun i => [(6, okI .i64 (Ber.be 0 ((b.drop 2).take i))), (9, okI .i64 (i : Int))]) (fun i => []) (fun i => i ≤ k.toNat) (fun i => k.toNat - i) 0 (Nat.zero_le _) (run trivial) (run ?_) ?_
  · rfl
  intro i hi
  have hbs := Ber.be_small ((b.drop 2).take i) (by rw [List.length_take]; omega)
  have hd6 : ¬ (i : Int) < k → Ber.headB b = (2 + k, Ber.be 0 ((b.drop 2).take i), 0) := fun h => by rw [show i = k.toNat by omega]; exact hd5
  clear hd5
  refine run ?_
  and_intros
  all_goals intros
  all_goals (first
    | (rw [Ber.nextB_5 (hd6 (by assumption)) (by assumption)]; done)
    | (rw [Ber.nextB_5 (hd6 (by assumption)) (by assumption)]; rfl)
    | (rw [Ber.nextB_2 (hd6 (by assumption)) (by assumption) (by assumption)]; done)
    | (rw [Ber.nextB_2 (hd6 (by assumption)) (by assumption) (by assumption)]; rfl)
    | (rw [Ber.nextB_ok (hd6 (by assumption)) (by assumption) (by assumption)]; done)
    | (rw [Ber.nextB_ok (hd6 (by assumption)) (by assumption) (by assumption)]; rfl)
    | skip)
  refine HX.roundX (i + 1) ⟨by omega, by omega⟩ rfl (run trivial) (run ?_)
  rw [Ber.be_snoc _ _ _ (by rw [List.length_drop]; omega)]
  simp [List.getD_eq_getElem?_getD]
theorem refLength (n : Int) (h : 0 ≤ n ∧ n ≤ 9223372036854775807) : CFn Try.prog 27 [okI .i64 n] (TBytes (Ber.lenB n)) := by
  refine CallsC.of Try.call27 Try.func27 rfl Try.ntmps27 rfl fun w0 G0 S0 hs ho => ?_
  refine run ?_
  and_intros
  all_goals intros
  · rw [Ber.lenB, if_pos (by assumption)]
  · refine HT.loopX (σ := Nat × Int × List UInt8) [2] (fun s => [(0, okI .i64 s.2.1), (3, TBytes s.2.2)]) (fun _ => []) (fun s => Ber.lenAcc s.1 s.2.1 s.2.2 = Ber.lenAcc 8 n [] ∧ 0 ≤ s.2.1 ∧ s.2.1 < 256 ^ s.1 ∧ s.2.2.length + s.1 = 8) (fun s => s.1) (8, n, []) ⟨rfl, h.1, by simp; omega, rfl⟩ (run trivial) (run trivial) ?_
    rintro ⟨k, m, acc⟩ ⟨h1, h2, h3, h4⟩
    dsimp only at h1 h2 h3 h4 ⊢
    refine run ?_
    and_intros
    all_goals intros
    · obtain ⟨k, rfl⟩ : ∃ j, k = j + 1 := by
        cases k with
        | zero => simp at h3; omega
        | succ k => exact ⟨k, rfl⟩
      refine HX.roundX (k, m / 256, b8 m :: acc) ⟨⟨?_, by dsimp only; omega, ?_, by simp; omega⟩, by dsimp only; omega⟩ rfl (run trivial) (run ?_)
      · rw [← h1, Ber.lenAcc, if_pos (by assumption)]
      · dsimp only; rw [Int.pow_succ] at h3; omega
      · rfl
    · have hacc : acc = Ber.lenAcc 8 n [] := by
        rw [← h1]
        cases k with
        | zero => rfl
        | succ k => rw [Ber.lenAcc, if_neg (by omega)]
      rw [Ber.lenB, if_neg (by omega), ← hacc]
      rfl
attribute [local irreducible] Ber.lenB in
theorem refTag (tag : UInt8) (body : List UInt8) (hl : body.length ≤ 70368744177664) : CFn Try.prog 21 [okI .u8 (tag.toNat : Int), TBytes body] (TBytes (Ber.tagB tag [body])) := by
  have c1 := @refLength
  have mu := Mut.mk' [6]
  have h := Ber.lenB_len (body.length : Int)
  refine CallsC.of Try.call21 Try.func21 rfl Try.ntmps21 rfl fun w0 G0 S0 hs ho => ?_
  refine run ?_
  intros
  rw [Ber.tagB_one]
  simp
end Go.Proofs.Ytmfhacngjbhldaa
