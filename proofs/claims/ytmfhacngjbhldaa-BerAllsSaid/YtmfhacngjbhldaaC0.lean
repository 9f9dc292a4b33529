/-
  What is read behind a tag and a length: plain facts. Nothing here speaks of a program; no conditions.
-/
import Derived.Test.YtmfhacngjbhldaaB0
set_option linter.unusedVariables false
namespace Go.Ber
open Go.Vk
abbrev TagOk (tag : UInt8) : Prop := ¬ ((tag &&& b8 31).toNat : Int) = 31
theorem lenB_1 (n : Int) (h : n < 128) : lenB n = [b8 n] := by unfold lenB; rw [if_pos h]
theorem lenB_2 (n : Int) (h : 128 ≤ n ∧ n < 256) : lenB n = [b8 129, b8 n] := by
  have e : lenAcc 8 n [] = [b8 n] := by
    unfold lenAcc; rw [if_pos (by omega)]
    unfold lenAcc; rw [if_neg (by omega)]
  unfold lenB; rw [if_neg (by omega)]; dsimp only; rw [e]; rfl
theorem lenB_3 (n : Int) (h : 256 ≤ n ∧ n < 65536) : lenB n = [b8 130, b8 (n / 256), b8 n] := by
  have e : lenAcc 8 n [] = [b8 (n / 256), b8 n] := by
    unfold lenAcc; rw [if_pos (by omega)]
    unfold lenAcc; rw [if_pos (by omega)]
    unfold lenAcc; rw [if_neg (by omega)]
  unfold lenB; rw [if_neg (by omega)]; dsimp only; rw [e]; rfl
theorem b8_nat (n : Int) (h : 0 ≤ n ∧ n < 256) : ((b8 n).toNat : Int) = n := by
  unfold b8
  rw [UInt8.toNat_ofNat']
  omega
theorem headB_1 (tag : UInt8) (ht : TagOk tag) (n : Int) (h : 0 ≤ n ∧ n < 128) (r : List UInt8) : headB (tag :: b8 n :: r) = (2, n, 0) := by
  have h2 := b8_nat n (by omega)
  unfold headB
  simp only [List.getD_cons_zero, List.getD_cons_succ, List.length_cons]
  rw [if_neg (by omega), if_neg ht, if_neg (by omega), if_pos (by omega), h2]
theorem headB_k (tag : UInt8) (ht : TagOk tag) (k : Nat) (h : 1 ≤ k ∧ k ≤ 4) (r : List UInt8) : headB (tag :: b8 (128 + (k : Int)) :: r) = if r.length < k then (0, 0, 2) else (2 + (k : Int), be 0 (r.take k), 0) := by
  have h2 := b8_nat (128 + (k : Int)) (by omega)
  have h3 := andn128 (b8 (128 + (k : Int))) (by omega)
  have h4 : ((b8 (128 + (k : Int)) &&& ~~~ (b8 128)).toNat : Int) = k := by omega
  unfold headB
  simp only [List.getD_cons_zero, List.getD_cons_succ, List.length_cons]
  rw [if_neg (by omega), if_neg ht, if_neg (by omega), if_neg (by omega), h4, if_neg (by omega)]
  by_cases hr : r.length < k
  · rw [if_pos (by omega), if_pos hr]
  · rw [if_neg (by omega), if_neg hr]
    have e : (2 + (k : Int)).toNat = k + 2 := by omega
    rw [e]; rfl
theorem nextB_of {b : List UInt8} {p n : Int} (h : headB b = (p, n, 0)) (hn : n ≤ 65536) : nextB b = if (b.length : Int) - p < n then ⟨0, [], [], 2⟩ else ⟨b.getD 0 0, (b.take (p + n).toNat).drop p.toNat, b.drop (p + n).toNat, 0⟩ := by
  unfold nextB
  rw [h]
  dsimp only
  rw [if_neg (by simp), if_neg (by omega)]
theorem nextB_short {b : List UInt8} {p n : Int} (h : headB b = (p, n, 2)) : nextB b = ⟨0, [], [], 2⟩ := by
  unfold nextB
  rw [h]
  dsimp only
  rw [if_pos (by simp)]
/-- What stands behind a tag and a head of some bytes that says how long it is. -/
theorem nextB_at (tag : UInt8) (hd r : List UInt8) (n : Nat) (hn : n ≤ 65536) (h : headB (tag :: (hd ++ r)) = (1 + (hd.length : Int), (n : Int), 0)) : nextB (tag :: (hd ++ r)) = if r.length < n then ⟨0, [], [], 2⟩ else ⟨tag, r.take n, r.drop n, 0⟩ := by
  rw [nextB_of h (by omega)]
  have e1 : (1 + (hd.length : Int)).toNat = hd.length + 1 := by omega
  have e2 : (1 + (hd.length : Int) + (n : Int)).toNat = hd.length + n + 1 := by omega
  rw [e1, e2]
  simp only [List.length_cons, List.length_append, List.getD_cons_zero, List.take_succ_cons, List.drop_succ_cons]
  by_cases hr : r.length < n
  · rw [if_pos (by omega), if_pos hr]
  · rw [if_neg (by omega), if_neg hr]
    congr 1
    · rw [List.take_length_add_append, List.drop_left]
    · rw [List.drop_length_add_append]
theorem headB_len (tag : UInt8) (ht : TagOk tag) (n : Nat) (hn : n < 65536) (r : List UInt8) : headB (tag :: (lenB (n : Int) ++ r)) = (1 + ((lenB (n : Int)).length : Int), (n : Int), 0) := by
  by_cases h1 : n < 128
  · rw [lenB_1 _ (by omega)]
    exact headB_1 tag ht _ (by omega) r
  · by_cases h2 : n < 256
    · rw [lenB_2 _ (by omega)]
      have := headB_k tag ht 1 (by omega) (b8 (n : Int) :: r)
      rw [if_neg (by simp)] at this
      refine this.trans ?_
      simp [be, b8_nat (n : Int) (by omega)]
    · rw [lenB_3 _ (by omega)]
      have := headB_k tag ht 2 (by omega) (b8 ((n : Int) / 256) :: b8 (n : Int) :: r)
      rw [if_neg (by simp)] at this
      refine this.trans ?_
      have e1 := b8_nat ((n : Int) / 256) (by omega)
      have e2 : ((b8 (n : Int)).toNat : Int) = (n : Int) % 256 := by
        unfold b8; rw [UInt8.toNat_ofNat']; omega
      simp [be, e1, e2]
      omega
/-- What is read where a tag and its length stand. -/
theorem nextB_tag (tag : UInt8) (ht : TagOk tag) (n : Nat) (hn : n < 65536) (r : List UInt8) : nextB (tag :: (lenB (n : Int) ++ r)) = if r.length < n then ⟨0, [], [], 2⟩ else ⟨tag, r.take n, r.drop n, 0⟩ :=
  nextB_at tag _ r n (by omega) (headB_len tag ht n hn r)
theorem tot_one (l : List UInt8) : tot [l] = l.length := by simp [tot]
theorem tagB_one (tag : UInt8) (l : List UInt8) : tagB tag [l] = tag :: (lenB (l.length : Int) ++ l) := by simp [tagB, tot_one]
theorem back (tag : UInt8) (ht : TagOk tag) (all rest : List UInt8) (hn : all.length < 65536) : nextB (tagB tag [all] ++ rest) = ⟨tag, all, rest, 0⟩ := by
  rw [tagB_one, List.cons_append, List.append_assoc, nextB_tag tag ht _ hn, if_neg (by simp)]
  simp
theorem cuts (tag : UInt8) (ht : TagOk tag) (body : List UInt8) (hn : body.length < 65536) (k : Nat) (hk : k < (tagB tag [body]).length) : nextB ((tagB tag [body]).take k) = ⟨0, [], [], 2⟩ := by
  rw [tagB_one] at *
  match k, hk with
  | 0, _ => rfl
  | 1, _ =>
    have e : (tag :: (lenB (body.length : Int) ++ body)).take 1 = [tag] := rfl
    rw [e]
    refine nextB_short (p := 0) (n := 0) ?_
    unfold headB
    simp only [List.getD_cons_zero, List.length_cons, List.length_nil]
    rw [if_neg (by simp), if_neg ht, if_pos (by simp)]
  | k + 2, hk =>
    rw [List.take_succ_cons, List.take_append]
    by_cases hl : (lenB (body.length : Int)).length ≤ k + 1
    · rw [List.take_of_length_le hl, nextB_tag tag ht _ hn, if_pos]
      simp only [List.length_cons, List.length_append] at hk
      rw [List.length_take]; omega
    · have e0 : k + 1 - (lenB (body.length : Int)).length = 0 := by omega
      rw [e0, List.take_zero, List.append_nil]
      by_cases h1 : body.length < 128
      · rw [lenB_1 _ (by omega)] at hl; simp at hl
      · by_cases h2 : body.length < 256
        · rw [lenB_2 _ (by omega)] at hl ⊢
          simp at hl
          subst hl
          have := headB_k tag ht 1 (by omega) []
          rw [if_pos (by simp)] at this
          exact nextB_short this
        · rw [lenB_3 _ (by omega)] at hl ⊢
          simp at hl
          have := headB_k tag ht 2 (by omega) ([b8 ((body.length : Int) / 256), b8 (body.length : Int)].take k)
          rw [if_pos (by simp; omega)] at this
          exact nextB_short this
theorem be_zeros : ∀ (k : Nat) (l : List UInt8), be 0 (List.replicate k 0 ++ l) = be 0 l
  | 0, l => rfl
  | k + 1, l => by
    rw [List.replicate_succ, List.cons_append]
    exact be_zeros k l
theorem long (tag : UInt8) (ht : TagOk tag) (body : List UInt8) (hn : body.length ≤ 255) (k : Nat) (hk : 1 ≤ k ∧ k ≤ 4) : nextB ([tag, b8 (128 + (k : Int))] ++ List.replicate (k - 1) 0 ++ [b8 (body.length : Int)] ++ body) = ⟨tag, body, [], 0⟩ := by
  have e : [tag, b8 (128 + (k : Int))] ++ List.replicate (k - 1) 0 ++ [b8 (body.length : Int)] ++ body = tag :: ((b8 (128 + (k : Int)) :: (List.replicate (k - 1) 0 ++ [b8 (body.length : Int)])) ++ body) := by simp
  rw [e, nextB_at tag _ body body.length (by omega) ?_]
  · rw [if_neg (by omega)]; simp
  · have := headB_k tag ht k hk ((List.replicate (k - 1) 0 ++ [b8 (body.length : Int)]) ++ body)
    have el : (List.replicate (k - 1) 0 ++ [b8 (body.length : Int)]).length = k := by simp; omega
    rw [if_neg (by rw [List.length_append, el]; omega)] at this
    rw [List.cons_append]
    refine this.trans ?_
    rw [List.take_append_of_le_length (by omega), List.take_of_length_le (by omega), be_zeros, List.length_cons, el]
    simp only [be, List.foldl_cons, List.foldl_nil, Int.zero_mul, Int.zero_add, b8_nat _ (show (0 : Int) ≤ (body.length : Int) ∧ (body.length : Int) < 256 by omega)]
    congr 1
    omega
/-! ### a head by cases, and what is read behind it -/
section
variable {b : List UInt8}
theorem headB_0 (h : (b.length : Int) < 1) : headB b = (0, 0, 2) := by unfold headB; rw [if_pos h]
theorem headB_31 (h : ¬ (b.length : Int) < 1) (h1 : ((b.getD 0 0 &&& b8 31).toNat : Int) = 31) : headB b = (0, 0, 3) := by unfold headB; rw [if_neg h, if_pos h1]
theorem headB_2 (h : ¬ (b.length : Int) < 1) (h1 : ¬ ((b.getD 0 0 &&& b8 31).toNat : Int) = 31) (h2 : (b.length : Int) < 2) : headB b = (0, 0, 2) := by unfold headB; rw [if_neg h, if_neg h1, if_pos h2]
theorem headB_b (h1 : ¬ ((b.getD 0 0 &&& b8 31).toNat : Int) = 31) (h2 : ¬ (b.length : Int) < 2) (h3 : ¬ 128 ≤ ((b.getD 1 0).toNat : Int)) : headB b = (2, ((b.getD 1 0).toNat : Int), 0) := by unfold headB; rw [if_neg (by omega), if_neg h1, if_neg h2, if_pos (by omega)]
theorem headB_big (h1 : ¬ ((b.getD 0 0 &&& b8 31).toNat : Int) = 31) (h2 : ¬ (b.length : Int) < 2) (h3 : 128 ≤ ((b.getD 1 0).toNat : Int)) : headB b = if ((b.getD 1 0).toNat : Int) - 128 < 1 ∨ 4 < ((b.getD 1 0).toNat : Int) - 128 then (0, 0, 3) else if (b.length : Int) < 2 + (((b.getD 1 0).toNat : Int) - 128) then (0, 0, 2) else (2 + (((b.getD 1 0).toNat : Int) - 128), be 0 ((b.drop 2).take (((b.getD 1 0).toNat : Int) - 128).toNat), 0) := by
  have e := andn128 (b.getD 1 0) (by omega)
  have e2 : (((b.getD 1 0) &&& ~~~ (b8 128)).toNat : Int) = ((b.getD 1 0).toNat : Int) - 128 := by omega
  unfold headB
  rw [if_neg (by omega), if_neg h1, if_neg h2, if_neg (by omega), e2]
  by_cases k1 : ((b.getD 1 0).toNat : Int) - 128 < 1 ∨ 4 < ((b.getD 1 0).toNat : Int) - 128
  · rw [if_pos (by omega), if_pos k1]
  · rw [if_neg (by omega), if_neg k1]
    by_cases k2 : (b.length : Int) < 2 + (((b.getD 1 0).toNat : Int) - 128)
    · rw [if_pos k2, if_pos k2]
    · rw [if_neg k2, if_neg k2]
      have e3 : (2 + (((b.getD 1 0).toNat : Int) - 128)).toNat = 2 + (((b.getD 1 0).toNat : Int) - 128).toNat := by omega
      rw [e3, List.drop_take]
      have e4 : 2 + (((b.getD 1 0).toNat : Int) - 128).toNat - Int.toNat 2 = (((b.getD 1 0).toNat : Int) - 128).toNat := by
        have : Int.toNat 2 = 2 := rfl
        omega
      rw [e4]; rfl
theorem headB_3 (h1 : ¬ ((b.getD 0 0 &&& b8 31).toNat : Int) = 31) (h2 : ¬ (b.length : Int) < 2) (h3 : 128 ≤ ((b.getD 1 0).toNat : Int)) (h4 : ((b.getD 1 0).toNat : Int) - 128 < 1 ∨ 4 < ((b.getD 1 0).toNat : Int) - 128) : headB b = (0, 0, 3) := by rw [headB_big h1 h2 h3, if_pos h4]
theorem headB_4 (h1 : ¬ ((b.getD 0 0 &&& b8 31).toNat : Int) = 31) (h2 : ¬ (b.length : Int) < 2) (h3 : 128 ≤ ((b.getD 1 0).toNat : Int)) (h4 : ¬ ((b.getD 1 0).toNat : Int) - 128 < 1 ∧ ¬ 4 < ((b.getD 1 0).toNat : Int) - 128) (h5 : (b.length : Int) < 2 + (((b.getD 1 0).toNat : Int) - 128)) : headB b = (0, 0, 2) := by rw [headB_big h1 h2 h3, if_neg (by omega), if_pos h5]
theorem headB_5 (h1 : ¬ ((b.getD 0 0 &&& b8 31).toNat : Int) = 31) (h2 : ¬ (b.length : Int) < 2) (h3 : 128 ≤ ((b.getD 1 0).toNat : Int)) (h4 : ¬ ((b.getD 1 0).toNat : Int) - 128 < 1 ∧ ¬ 4 < ((b.getD 1 0).toNat : Int) - 128) (h5 : ¬ (b.length : Int) < 2 + (((b.getD 1 0).toNat : Int) - 128)) : headB b = (2 + (((b.getD 1 0).toNat : Int) - 128), be 0 ((b.drop 2).take (((b.getD 1 0).toNat : Int) - 128).toNat), 0) := by rw [headB_big h1 h2 h3, if_neg (by omega), if_neg h5]
variable {p n e : Int}
theorem nextB_err (h : headB b = (p, n, e)) (he : e ≠ 0) : nextB b = ⟨0, [], [], e⟩ := by unfold nextB; rw [h]; dsimp only; rw [if_pos he]
theorem nextB_5 (h : headB b = (p, n, 0)) (h1 : 65536 < n) : nextB b = ⟨0, [], [], 5⟩ := by unfold nextB; rw [h]; dsimp only; rw [if_neg (by simp), if_pos h1]
theorem nextB_2 (h : headB b = (p, n, 0)) (h1 : ¬ 65536 < n) (h2 : (b.length : Int) - p < n) : nextB b = ⟨0, [], [], 2⟩ := by unfold nextB; rw [h]; dsimp only; rw [if_neg (by simp), if_neg h1, if_pos h2]
theorem nextB_ok (h : headB b = (p, n, 0)) (h1 : ¬ 65536 < n) (h2 : ¬ (b.length : Int) - p < n) : nextB b = ⟨b.getD 0 0, (b.take (p + n).toNat).drop p.toNat, b.drop (p + n).toNat, 0⟩ := by unfold nextB; rw [h]; dsimp only; rw [if_neg (by simp), if_neg h1, if_neg h2]
end
end Go.Ber
