/-
  The plain functions of ber: what its Go functions compute, on lists of bytes and numbers. Nothing here speaks of a program; no conditions.
  The contracts of ber's small functions: FromBool, Bool, bytes.Clone, head, next, Next: what each computes, for every input; nothing that was there is changed.
  The contracts of Decode, the program's and the document's.
  The contracts of Decode, the program's and the document's.
  Arguments as data: from the form's reading of a value to the logic's types, with the bounds that the reach gives. Nothing here speaks of a program; no conditions.
  The laws LevelPicks, LevelLooks, LevelDecodes, LevelBack; versions and files as arguments.
-/
import Derived.Test.YtohhhaeemephnaaGac
import Derived.Test.YtohhhaeemephnaaRows
import Derived.Test.YtohhhaeemephnaaGam
import Derived.Test.YtohhhaeemephnaaGai
import Derived.ProofKit
import Derived.OpenShut
import Derived.ShutString
import Derived.ChangeOld
import Derived.Below
import Derived.Carry
import Derived.SizedLaws
set_option linter.unusedSimpArgs false
set_option linter.unusedVariables false
set_option linter.unusedVariables false
namespace Go.Ber
open Go.Vk

/-- Bytes, the highest first, as a number. -/
def be (n : Int) (l : List UInt8) : Int := l.foldl (fun n c => n * 256 + (c.toNat : Int)) n
def bitsLow (c : UInt8) : Bool := decide ((c &&& b8 31).toNat = 31)
theorem all256 {p : UInt8 → Prop} [DecidablePred p] (h : ∀ n : Fin 256, p (UInt8.ofNat n.val)) (c : UInt8) : p c := by
  have := h ⟨c.toNat, c.toNat_lt⟩
  simpa using this
theorem andn128 (c : UInt8) (h : ¬ c.toNat < 128) : (c &&& ~~~ (b8 128)).toNat = c.toNat - 128 := by
  revert h
  exact all256 (p := fun c => ¬ c.toNat < 128 → (c &&& ~~~ (b8 128)).toNat = c.toNat - 128) (by decide +kernel) c
theorem be_snoc (n : Int) (l : List UInt8) (k : Nat) (h : k < l.length) : be n (l.take (k + 1)) = be n (l.take k) * 256 + ((l.getD k 0).toNat : Int) := by
  rw [List.take_succ_eq_append_getElem h, be, List.foldl_append, List.getD_eq_getElem?_getD, List.getElem?_eq_getElem h]
  rfl
theorem be_bound (l : List UInt8) : 0 ≤ be 0 l ∧ be 0 l < 256 ^ l.length := by
  have key : ∀ (l : List UInt8) (n : Int), 0 ≤ n → 0 ≤ be n l ∧ be n l < (n + 1) * 256 ^ l.length := by
    intro l
    induction l with
    | nil => intro n h; simp [be]; omega
    | cons c l ih =>
      intro n h
      have hc := c.toNat_lt
      obtain ⟨h1, h2⟩ := ih (n * 256 + (c.toNat : Int)) (by omega)
      refine ⟨h1, Int.lt_of_lt_of_le h2 ?_⟩
      rw [List.length_cons, Int.pow_succ, Int.mul_comm (256 ^ l.length) 256, ← Int.mul_assoc]
      exact Int.mul_le_mul_of_nonneg_right (by omega) (Int.le_of_lt (Int.pow_pos (by decide)))
  have := key l 0 (by omega)
  simpa using this
theorem be_small (l : List UInt8) (h : l.length ≤ 4) : 0 ≤ be 0 l ∧ be 0 l ≤ 4294967295 := by
  obtain ⟨h1, h2⟩ := be_bound l
  refine ⟨h1, ?_⟩
  have h3 : ∀ n, n ≤ 4 → (256 : Int) ^ n ≤ 4294967296 := by decide
  have := h3 _ h
  omega

/-- The bytes of a length of several bytes, ahead of some. -/
def lenAcc : Nat → Int → List UInt8 → List UInt8
  | 0, _, b => b
  | k + 1, n, b => if 0 < n then lenAcc k (n / 256) (b8 n :: b) else b
def lenB (n : Int) : List UInt8 := if n < 128 then [b8 n] else
  let b := lenAcc 8 n []
  b8 (128 + b.length) :: b

/-- A head: from where the body stands, how long it is, the error. -/
def headB (b : List UInt8) : Int × Int × Int :=
  if (b.length : Int) < 1 then (0, 0, 2)
  else if ((b.getD 0 0 &&& b8 31).toNat : Int) = 31 then (0, 0, 3)
  else if (b.length : Int) < 2 then (0, 0, 2)
  else if ((b.getD 1 0).toNat : Int) < 128 then (2, ((b.getD 1 0).toNat : Int), 0)
  else if ((b.getD 1 0 &&& ~~~ (b8 128)).toNat : Int) = 0 ∨ 4 < ((b.getD 1 0 &&& ~~~ (b8 128)).toNat : Int) then (0, 0, 3)
  else if (b.length : Int) < 2 + ((b.getD 1 0 &&& ~~~ (b8 128)).toNat : Int) then (0, 0, 2)
  else (2 + ((b.getD 1 0 &&& ~~~ (b8 128)).toNat : Int), be 0 ((b.take (2 + ((b.getD 1 0 &&& ~~~ (b8 128)).toNat : Int)).toNat).drop (Int.toNat 2)), 0)
structure NextR where
  tag : UInt8
  body : List UInt8
  rest : List UInt8
  e : Int
def nextB (b : List UInt8) : NextR :=
  let h := headB b
  if h.2.2 ≠ 0 then ⟨0, [], [], h.2.2⟩
  else if 65536 < h.2.1 then ⟨0, [], [], 5⟩
  else if (b.length : Int) - h.1 < h.2.1 then ⟨0, [], [], 2⟩
  else ⟨b.getD 0 0, (b.take (h.1 + h.2.1).toNat).drop h.1.toNat, b.drop (h.1 + h.2.1).toNat, 0⟩
theorem headB_ok (b : List UInt8) : 0 ≤ (headB b).1 ∧ (headB b).1 ≤ 300 ∧ 0 ≤ (headB b).2.1 ∧ (headB b).2.1 ≤ 4294967295 ∧ ((headB b).2.2 = 0 → 2 ≤ (headB b).1 ∧ (headB b).1 ≤ (b.length : Int)) := by
  unfold headB
  have h1 := (b.getD 1 0).toNat_lt
  have h2 := (b.getD 1 0 &&& ~~~ (b8 128)).toNat_lt
  generalize hx : (b.getD 1 0 &&& ~~~ (b8 128)).toNat = x at *
  generalize (b.getD 1 0).toNat = y at *
  have h4 : x ≤ 4 → 0 ≤ be 0 ((b.take (2 + (x : Int)).toNat).drop (Int.toNat 2)) ∧ be 0 ((b.take (2 + (x : Int)).toNat).drop (Int.toNat 2)) ≤ 4294967295 := fun h => be_small _ (by simp only [List.length_drop, List.length_take]; omega)
  generalize be 0 ((b.take (2 + (x : Int)).toNat).drop (Int.toNat 2)) = z at *
  repeat' split
  all_goals dsimp only
  all_goals omega
theorem nextB_len (b : List UInt8) : (nextB b).body.length ≤ b.length ∧ (nextB b).rest.length ≤ b.length ∧ ((nextB b).e = 0 → (nextB b).rest.length + 2 ≤ b.length) := by
  have h := headB_ok b
  unfold nextB
  dsimp only
  repeat' split
  all_goals dsimp only
  all_goals (first | (simp; done) | skip)
  · simp; omega
  · simp only [List.length_drop, List.length_take]
    omega
theorem lenB_or : ∀ k : Nat, k ≤ 8 → (b8 128 ||| b8 (k : Int)) = b8 (128 + (k : Int)) := by decide
def rb : Nat → Int
  | 0 => 128
  | k + 1 => 256 * rb k
theorem rb7 : rb 7 = 9223372036854775808 := by decide
theorem rb_pos : ∀ k, 128 ≤ rb k
  | 0 => Int.le_refl _
  | k + 1 => by have := rb_pos k; simp only [rb]; omega
theorem be_rb (l : List UInt8) (n : Int) (h : -128 ≤ n ∧ n ≤ 127) : -(rb l.length) ≤ be n l ∧ be n l < rb l.length := by
  have key : ∀ (l : List UInt8) (n : Int) (j : Nat), -(rb j) ≤ n → n < rb j → -(rb (j + l.length)) ≤ be n l ∧ be n l < rb (j + l.length) := by
    intro l
    induction l with
    | nil => intro n j h1 h2; exact ⟨h1, h2⟩
    | cons c l ih =>
      intro n j h1 h2
      have hc := c.toNat_lt
      have := ih (n * 256 + (c.toNat : Int)) (j + 1) (by simp only [rb]; omega) (by simp only [rb]; omega)
      rw [show j + (c :: l).length = j + 1 + l.length from by simp; omega]
      exact this
  have := key l n 0 (by simp only [rb]; omega) (by simp only [rb]; omega)
  simpa using this
theorem rb_mono {j k : Nat} (h : j ≤ k) : rb j ≤ rb k := by
  induction k with
  | zero => rw [Nat.le_zero.1 h]; exact Int.le_refl _
  | succ k ih =>
    rcases Nat.lt_or_ge j (k + 1) with h1 | h1
    · have := ih (by omega); have := rb_pos k; simp only [rb]; omega
    · rw [show j = k + 1 from by omega]; exact Int.le_refl _
theorem be_rb7 (l : List UInt8) {n : Int} (h : -128 ≤ n ∧ n ≤ 127) (hl : l.length ≤ 6) : -36028797018963968 ≤ be n l ∧ be n l ≤ 36028797018963967 := by
  have h1 := be_rb l n h
  have h2 := rb_mono hl
  rw [show rb 6 = 36028797018963968 from by decide] at h2
  omega
theorem rb6 : rb 6 = 36028797018963968 := by decide
/-- A number's bytes. -/
def intAcc : Nat → Int → List UInt8 → List UInt8
  | 0, _, b => b
  | k + 1, n, b => if 127 < n ∨ n < -128 then intAcc k (n / 256) (b8 (n / 256) :: b) else b
def intB (n : Int) : List UInt8 := intAcc 7 n [b8 n]
def s8 (c : UInt8) : Int := IntKind.i8.wrap (c.toNat : Int)
theorem s8_bd (c : UInt8) : -128 ≤ s8 c ∧ s8 c ≤ 127 := by
  have := c.toNat_lt
  unfold s8 IntKind.wrap
  simp [IntKind.bits, IntKind.signed]
  split <;> omega
def fromIntB (b : List UInt8) : Int × Int :=
  if (b.length : Int) < 1 ∨ 8 < (b.length : Int) then (0, 3) else (be (s8 (b.getD 0 0)) (b.drop (Int.toNat 1)), 0)
def tot (ls : List (List UInt8)) : Nat := (ls.map List.length).sum
theorem tot_flat (ls : List (List UInt8)) : ls.flatten.length = tot ls := by simp [tot, List.length_flatten]
theorem take_snocD {α : Type} [Inhabited α] (l : List α) (k : Nat) (h : k < l.length) : l.take (k + 1) = l.take k ++ [l.getD k default] := by
  rw [List.take_succ_eq_append_getElem h, List.getD_eq_getElem?_getD, List.getElem?_eq_getElem h]; rfl
theorem tot_snoc (ls : List (List UInt8)) (k : Nat) (h : k < ls.length) : tot (ls.take (k + 1)) = tot (ls.take k) + (ls.getD k default).length := by
  rw [take_snocD ls k h]; simp [tot]
theorem tot_append (a b : List (List UInt8)) : tot (a ++ b) = tot a + tot b := by simp [tot]
theorem tot_take (ls : List (List UInt8)) (k : Nat) : tot (ls.take k) ≤ tot ls := by
  have := tot_append (ls.take k) (ls.drop k)
  rw [List.take_append_drop] at this
  omega
theorem tot_get (ls : List (List UInt8)) (k : Nat) (h : k < ls.length) : tot (ls.take k) + (ls.getD k default).length ≤ tot ls := by
  rw [← tot_snoc ls k h]; exact tot_take ls _
theorem lenAcc_len : ∀ (k : Nat) (n : Int) (b : List UInt8), (lenAcc k n b).length ≤ k + b.length
  | 0, _, b => by simp [lenAcc]
  | k + 1, n, b => by
    unfold lenAcc
    split
    · have := lenAcc_len k (n / 256) (b8 n :: b); simp at this; omega
    · omega
theorem lenB_len (n : Int) : (lenB n).length ≤ 9 := by
  unfold lenB
  split
  · simp
  · have := lenAcc_len 8 n []; simp at this ⊢; omega
def tagB (tag : UInt8) (ls : List (List UInt8)) : List UInt8 := tag :: (lenB (tot ls : Int) ++ ls.flatten)
end Go.Ber
set_option maxRecDepth 8000
set_option linter.unusedVariables false
namespace Go.Proofs.Ytohhhaeemephnaa
open Go.Vk
attribute [local irreducible] HT HX RegS RegA OpP OpC

theorem clone (l : List UInt8) (hl : l.length ≤ 140737488355328) : CFn Try.prog 54 [TBytes l] (TBytes l) := by
  refine CallsC.of Try.call54 Try.func54 rfl Try.ntmps54 rfl fun w0 G0 S0 hs ho => ?_
  repeat' (first
  | (refine isHX ?_; first | refine HX.then ?_ | refine HX.then_ret ?_ | refine HX.then_exit ?_ | refine HX.block_normal ?_ | refine HX.block_ret ?_ | refine HX.block_hit ?_ | refine HX.block_miss rfl ?_ | fail)
  | (refine isHT ?_; first | refine HT.seq ?_ | refine HT.block ?_ | refine HT.region rfl ?_ | refine HT.regionAl rfl rfl rfl ?_ | refine HT.skip ?_ | refine HT.ret ?_ | refine HT.exit ?_ | refine HT.condNil rfl (fun hb => ?_) ?_ | ((refine HT.condD rfl (fun hb => ?_) (fun hb => ?_)) <;> try (exfalso; omega)) | ((refine HT.cond rfl (fun hb => ?_) (fun hb => ?_)) <;> (try simp only [Bool.or_eq_true, Bool.and_eq_true, Bool.or_eq_false_iff, Bool.and_eq_false_iff, Bool.not_eq_true', Bool.not_eq_false', decide_eq_true_eq, decide_eq_false_iff_not] at hb) <;> try (exfalso; omega)) | fail)
  | (refine isS (.call { callee := .builtin .append, args := #[_, _], argTypes := #[_, _] }) ?_; first | refine RegS.ce rfl (op_appendB 0 rfl rfl rfl rfl rfl (by first | omega | (simp only [decide_eq_true_eq, decide_eq_false_iff_not, List.length_cons, List.length_nil, List.length_append, List.length_take, List.length_drop, maxLen] at *; omega))) (fun v => ?_) | refine RegS.ce rfl (op_appendB 1 rfl rfl rfl rfl rfl (by first | omega | (simp only [decide_eq_true_eq, decide_eq_false_iff_not, List.length_cons, List.length_nil, List.length_append, List.length_take, List.length_drop, maxLen] at *; omega))) (fun v => ?_) | fail)
  | (refine isRS ?_; first | refine RegS.nil ?_ | refine RegS.fe rfl ?_ | refine RegS.ge rfl rfl rfl ?_ | refine RegS.gn rfl rfl rfl ?_ | refine RegS.fn ?_ | fail) | (refine isRA ?_; first | refine RegA.nil ?_ | refine RegA.fe rfl ?_ | refine RegA.ge rfl rfl rfl ?_ | refine RegA.gn rfl rfl rfl ?_ | refine RegA.fn ?_ | fail)
  | (refine isO (.move _) ?_; first | refine ⟨_, op_move rfl, ?_⟩ | fail)
  | (refine isO (.assign _) ?_; first | refine ⟨_, op_assign rfl, ?_⟩ | fail)
  | (refine isO (.call { callee := .builtin .len, args := #[_], argTypes := #[_] }) ?_; first | refine ⟨_, op_len_sl rfl rfl, ?_⟩ | refine ⟨_, op_len_slx rfl rfl, ?_⟩ | refine ⟨_, op_len_str rfl rfl, ?_⟩ | fail)
  | (refine isO (.load _ _) ?_; first | refine ⟨_, op_load1 rfl (fun w => rfl), ?_⟩ | refine ⟨_, op_load rfl (fun w => rfl) (fun w => rfl), ?_⟩ | fail)
  | (refine isO (.indexAddr _ _ _) ?_; first | refine ⟨_, op_indexBN rfl rfl rfl rfl rfl (by first | omega | (simp only [decide_eq_true_eq, decide_eq_false_iff_not, List.length_cons, List.length_nil, List.length_append, List.length_take, List.length_drop, maxLen] at *; omega)), ?_⟩ | refine ⟨_, op_indexN rfl rfl rfl rfl rfl (by first | omega | (simp only [decide_eq_true_eq, decide_eq_false_iff_not, List.length_cons, List.length_nil, List.length_append, List.length_take, List.length_drop, maxLen] at *; omega)), ?_⟩ | refine ⟨_, op_indexB0 rfl rfl rfl rfl (by first | omega | (simp only [decide_eq_true_eq, decide_eq_false_iff_not, List.length_cons, List.length_nil, List.length_append, List.length_take, List.length_drop, maxLen] at *; omega)), ?_⟩ | refine ⟨_, op_indexB1 rfl rfl rfl rfl (by first | omega | (simp only [decide_eq_true_eq, decide_eq_false_iff_not, List.length_cons, List.length_nil, List.length_append, List.length_take, List.length_drop, maxLen] at *; omega)), ?_⟩ | refine ⟨_, op_indexB rfl rfl rfl rfl rfl (by first | omega | (simp only [decide_eq_true_eq, decide_eq_false_iff_not, List.length_cons, List.length_nil, List.length_append, List.length_take, List.length_drop, maxLen] at *; omega)), ?_⟩ | refine ⟨_, op_indexD rfl rfl rfl rfl rfl (by first | omega | (simp only [decide_eq_true_eq, decide_eq_false_iff_not, List.length_cons, List.length_nil, List.length_append, List.length_take, List.length_drop, maxLen] at *; omega)), ?_⟩ | fail)
  | (refine isO (.extract _ _) ?_; first | refine ⟨_, op_extract rfl rfl, ?_⟩ | fail)
  | (refine isO (.pick _ (.const (.bool true)) _) ?_; first | refine ⟨_, op_or rfl rfl, ?_⟩ | refine ⟨_, op_orU rfl rfl, ?_⟩ | fail)
  | (refine isO (.pick _ _ (.const (.bool false))) ?_; first | refine ⟨_, op_and rfl rfl, ?_⟩ | refine ⟨_, op_andU rfl rfl, ?_⟩ | fail)
  | (refine isO (.binOp .lss _ _ _ _) ?_; first | refine ⟨_, op_lss rfl rfl, ?_⟩ | fail)
  | (refine isO (.binOp .gtr _ _ _ _) ?_; first | refine ⟨_, op_gtr rfl rfl, ?_⟩ | fail)
  | (refine isO (.binOp .leq _ _ _ _) ?_; first | refine ⟨_, op_leq rfl rfl, ?_⟩ | fail)
  | (refine isO (.binOp .geq _ _ _ _) ?_; first | refine ⟨_, op_geq rfl rfl, ?_⟩ | fail)
  | (refine isO (.binOp .eql _ _ _ _) ?_; first | refine ⟨_, op_eqi rfl rfl, ?_⟩ | refine ⟨_, op_eqs rfl rfl, ?_⟩ | refine ⟨_, op_eqnil rfl rfl, ?_⟩ | refine ⟨_, op_eqb rfl rfl rfl, ?_⟩ | fail)
  | (refine isO (.binOp .neq _ _ _ _) ?_; first | refine ⟨_, op_nei rfl rfl, ?_⟩ | refine ⟨_, op_nes rfl rfl, ?_⟩ | refine ⟨_, op_neb rfl rfl rfl, ?_⟩ | fail)
  | (refine isO (.binOp .add _ _ _ _) ?_; first | refine ⟨_, op_add rfl rfl (InK.i64 (by first | omega | (simp only [decide_eq_true_eq, decide_eq_false_iff_not, List.length_cons, List.length_nil, List.length_append, List.length_take, List.length_drop, maxLen] at *; omega))), ?_⟩ | fail)
  | (refine isO (.binOp .sub _ _ _ _) ?_; first | refine ⟨_, op_sub rfl rfl (InK.i64 (by first | omega | (simp only [decide_eq_true_eq, decide_eq_false_iff_not, List.length_cons, List.length_nil, List.length_append, List.length_take, List.length_drop, maxLen] at *; omega))), ?_⟩ | fail)
  | (refine isO (.convert _ _ _) ?_; first | refine ⟨_, op_conv8 rfl rfl rfl (by decide), ?_⟩ | refine ⟨_, op_conv rfl rfl rfl (InK.i64 (by first | omega | (simp only [decide_eq_true_eq, decide_eq_false_iff_not, List.length_cons, List.length_nil, List.length_append, List.length_take, List.length_drop, maxLen] at *; omega))), ?_⟩ | refine ⟨_, op_byte rfl rfl rfl, ?_⟩ | refine ⟨_, op_string rfl rfl rfl rfl, ?_⟩ | fail)
  | (refine isO (.slice _ _ (some _) (some _) none) ?_; first | refine ⟨_, op_slice2 rfl rfl (fun w => rfl) rfl rfl (by first | omega | (simp only [decide_eq_true_eq, decide_eq_false_iff_not, List.length_cons, List.length_nil, List.length_append, List.length_take, List.length_drop, maxLen] at *; omega)), ?_⟩ | fail)
  | (refine isO (.slice _ _ (some _) none none) ?_; first | refine ⟨_, op_sliceL rfl rfl (fun w => rfl) rfl (by first | omega | (simp only [decide_eq_true_eq, decide_eq_false_iff_not, List.length_cons, List.length_nil, List.length_append, List.length_take, List.length_drop, maxLen] at *; omega)), ?_⟩ | fail)
  | (refine isO (.slice _ _ none (some _) none) ?_; first | refine ⟨_, op_sliceH rfl rfl (fun w => rfl) rfl (by first | omega | (simp only [decide_eq_true_eq, decide_eq_false_iff_not, List.length_cons, List.length_nil, List.length_append, List.length_take, List.length_drop, maxLen] at *; omega)), ?_⟩ | fail)
  | (refine isO (.buildSlice _ _ _) ?_; first | refine ⟨_, op_litB0 rfl rfl rfl, ?_⟩ | refine ⟨_, op_litB1 rfl rfl rfl, ?_⟩ | refine ⟨_, op_litB1c rfl (by decide) rfl rfl, ?_⟩ | fail)
  | (refine isO (.call { callee := .builtin .append, args := #[_, _], argTypes := #[_, _] }) ?_; first | refine ⟨_, op_appendXB rfl rfl rfl rfl (by first | omega | (simp only [decide_eq_true_eq, decide_eq_false_iff_not, List.length_cons, List.length_nil, List.length_append, List.length_take, List.length_drop, maxLen] at *; omega)), ?_⟩ | fail)
  | (refine isO (.binOp .and _ _ _ _) ?_; first | refine ⟨_, op_and8 rfl rfl (by decide), ?_⟩ | fail)
  | (refine isO (.binOp .or _ _ _ _) ?_; first | refine ⟨_, op_or8' rfl rfl (by decide), ?_⟩ | refine ⟨_, op_or8 rfl rfl (by decide), ?_⟩ | refine ⟨_, op_orlow8 rfl rfl (by first | omega | (simp only [decide_eq_true_eq, decide_eq_false_iff_not, List.length_cons, List.length_nil, List.length_append, List.length_take, List.length_drop, maxLen] at *; omega)), ?_⟩ | fail)
  | (refine isO (.binOp .andNot _ _ _ _) ?_; first | refine ⟨_, op_andn8 rfl rfl (by decide), ?_⟩ | fail)
  | (refine isO (.binOp .shr _ _ _ _) ?_; first | refine ⟨_, op_shr8 rfl, ?_⟩ | fail)
  | (refine isO (.binOp .shl _ _ _ _) ?_; first | refine ⟨_, op_shl8 rfl (InK.i64 (by first | omega | (simp only [decide_eq_true_eq, decide_eq_false_iff_not, List.length_cons, List.length_nil, List.length_append, List.length_take, List.length_drop, maxLen] at *; omega))), ?_⟩ | fail)
  | (refine isO (.unOp .not _ _) ?_; first | refine ⟨_, op_not rfl, ?_⟩ | fail)
  | refine exUn 0 rfl rfl ?_ | refine exUn 1 rfl rfl ?_ | refine exUn 2 rfl rfl ?_ | refine exUnR 0 rfl rfl ?_ | refine exUnR 1 rfl rfl ?_ | refine exUnL 0 rfl rfl ?_ | refine exUnL 1 rfl rfl ?_
  | (refine isG (.move _) ?_; first | refine ⟨_, fun hb => op_move rfl, ?_⟩ | fail)
  | (refine isG (.assign _) ?_; first | refine ⟨_, fun hb => op_assign rfl, ?_⟩ | fail)
  | (refine isG (.call { callee := .builtin .len, args := #[_], argTypes := #[_] }) ?_; first | refine ⟨_, fun hb => op_len_sl rfl rfl, ?_⟩ | refine ⟨_, fun hb => op_len_slx rfl rfl, ?_⟩ | refine ⟨_, fun hb => op_len_str rfl rfl, ?_⟩ | fail)
  | (refine isG (.load _ _) ?_; first | refine ⟨_, fun hb => op_load1 rfl (fun w => rfl), ?_⟩ | refine ⟨_, fun hb => op_load rfl (fun w => rfl) (fun w => rfl), ?_⟩ | fail)
  | (refine isG (.indexAddr _ _ _) ?_; first | refine ⟨_, fun hb => op_indexBN rfl rfl rfl rfl rfl (by first | omega | (simp only [decide_eq_true_eq, decide_eq_false_iff_not, List.length_cons, List.length_nil, List.length_append, List.length_take, List.length_drop, maxLen] at *; omega)), ?_⟩ | refine ⟨_, fun hb => op_indexN rfl rfl rfl rfl rfl (by first | omega | (simp only [decide_eq_true_eq, decide_eq_false_iff_not, List.length_cons, List.length_nil, List.length_append, List.length_take, List.length_drop, maxLen] at *; omega)), ?_⟩ | refine ⟨_, fun hb => op_indexB0 rfl rfl rfl rfl (by first | omega | (simp only [decide_eq_true_eq, decide_eq_false_iff_not, List.length_cons, List.length_nil, List.length_append, List.length_take, List.length_drop, maxLen] at *; omega)), ?_⟩ | refine ⟨_, fun hb => op_indexB1 rfl rfl rfl rfl (by first | omega | (simp only [decide_eq_true_eq, decide_eq_false_iff_not, List.length_cons, List.length_nil, List.length_append, List.length_take, List.length_drop, maxLen] at *; omega)), ?_⟩ | refine ⟨_, fun hb => op_indexB rfl rfl rfl rfl rfl (by first | omega | (simp only [decide_eq_true_eq, decide_eq_false_iff_not, List.length_cons, List.length_nil, List.length_append, List.length_take, List.length_drop, maxLen] at *; omega)), ?_⟩ | refine ⟨_, fun hb => op_indexD rfl rfl rfl rfl rfl (by first | omega | (simp only [decide_eq_true_eq, decide_eq_false_iff_not, List.length_cons, List.length_nil, List.length_append, List.length_take, List.length_drop, maxLen] at *; omega)), ?_⟩ | fail)
  | (refine isG (.extract _ _) ?_; first | refine ⟨_, fun hb => op_extract rfl rfl, ?_⟩ | fail)
  | (refine isG (.pick _ (.const (.bool true)) _) ?_; first | refine ⟨_, fun hb => op_or rfl rfl, ?_⟩ | refine ⟨_, fun hb => op_orU rfl rfl, ?_⟩ | fail)
  | (refine isG (.pick _ _ (.const (.bool false))) ?_; first | refine ⟨_, fun hb => op_and rfl rfl, ?_⟩ | refine ⟨_, fun hb => op_andU rfl rfl, ?_⟩ | fail)
  | (refine isG (.binOp .lss _ _ _ _) ?_; first | refine ⟨_, fun hb => op_lss rfl rfl, ?_⟩ | fail)
  | (refine isG (.binOp .gtr _ _ _ _) ?_; first | refine ⟨_, fun hb => op_gtr rfl rfl, ?_⟩ | fail)
  | (refine isG (.binOp .leq _ _ _ _) ?_; first | refine ⟨_, fun hb => op_leq rfl rfl, ?_⟩ | fail)
  | (refine isG (.binOp .geq _ _ _ _) ?_; first | refine ⟨_, fun hb => op_geq rfl rfl, ?_⟩ | fail)
  | (refine isG (.binOp .eql _ _ _ _) ?_; first | refine ⟨_, fun hb => op_eqi rfl rfl, ?_⟩ | refine ⟨_, fun hb => op_eqs rfl rfl, ?_⟩ | refine ⟨_, fun hb => op_eqnil rfl rfl, ?_⟩ | refine ⟨_, fun hb => op_eqb rfl rfl rfl, ?_⟩ | fail)
  | (refine isG (.binOp .neq _ _ _ _) ?_; first | refine ⟨_, fun hb => op_nei rfl rfl, ?_⟩ | refine ⟨_, fun hb => op_nes rfl rfl, ?_⟩ | refine ⟨_, fun hb => op_neb rfl rfl rfl, ?_⟩ | fail)
  | (refine isG (.binOp .add _ _ _ _) ?_; first | refine ⟨_, fun hb => op_add rfl rfl (InK.i64 (by first | omega | (simp only [decide_eq_true_eq, decide_eq_false_iff_not, List.length_cons, List.length_nil, List.length_append, List.length_take, List.length_drop, maxLen] at *; omega))), ?_⟩ | fail)
  | (refine isG (.binOp .sub _ _ _ _) ?_; first | refine ⟨_, fun hb => op_sub rfl rfl (InK.i64 (by first | omega | (simp only [decide_eq_true_eq, decide_eq_false_iff_not, List.length_cons, List.length_nil, List.length_append, List.length_take, List.length_drop, maxLen] at *; omega))), ?_⟩ | fail)
  | (refine isG (.convert _ _ _) ?_; first | refine ⟨_, fun hb => op_conv8 rfl rfl rfl (by decide), ?_⟩ | refine ⟨_, fun hb => op_conv rfl rfl rfl (InK.i64 (by first | omega | (simp only [decide_eq_true_eq, decide_eq_false_iff_not, List.length_cons, List.length_nil, List.length_append, List.length_take, List.length_drop, maxLen] at *; omega))), ?_⟩ | refine ⟨_, fun hb => op_byte rfl rfl rfl, ?_⟩ | refine ⟨_, fun hb => op_string rfl rfl rfl rfl, ?_⟩ | fail)
  | (refine isG (.slice _ _ (some _) (some _) none) ?_; first | refine ⟨_, fun hb => op_slice2 rfl rfl (fun w => rfl) rfl rfl (by first | omega | (simp only [decide_eq_true_eq, decide_eq_false_iff_not, List.length_cons, List.length_nil, List.length_append, List.length_take, List.length_drop, maxLen] at *; omega)), ?_⟩ | fail)
  | (refine isG (.slice _ _ (some _) none none) ?_; first | refine ⟨_, fun hb => op_sliceL rfl rfl (fun w => rfl) rfl (by first | omega | (simp only [decide_eq_true_eq, decide_eq_false_iff_not, List.length_cons, List.length_nil, List.length_append, List.length_take, List.length_drop, maxLen] at *; omega)), ?_⟩ | fail)
  | (refine isG (.slice _ _ none (some _) none) ?_; first | refine ⟨_, fun hb => op_sliceH rfl rfl (fun w => rfl) rfl (by first | omega | (simp only [decide_eq_true_eq, decide_eq_false_iff_not, List.length_cons, List.length_nil, List.length_append, List.length_take, List.length_drop, maxLen] at *; omega)), ?_⟩ | fail)
  | (refine isG (.buildSlice _ _ _) ?_; first | refine ⟨_, fun hb => op_litB0 rfl rfl rfl, ?_⟩ | refine ⟨_, fun hb => op_litB1 rfl rfl rfl, ?_⟩ | refine ⟨_, fun hb => op_litB1c rfl (by decide) rfl rfl, ?_⟩ | fail)
  | (refine isG (.call { callee := .builtin .append, args := #[_, _], argTypes := #[_, _] }) ?_; first | refine ⟨_, fun hb => op_appendXB rfl rfl rfl rfl (by first | omega | (simp only [decide_eq_true_eq, decide_eq_false_iff_not, List.length_cons, List.length_nil, List.length_append, List.length_take, List.length_drop, maxLen] at *; omega)), ?_⟩ | fail)
  | (refine isG (.binOp .and _ _ _ _) ?_; first | refine ⟨_, fun hb => op_and8 rfl rfl (by decide), ?_⟩ | fail)
  | (refine isG (.binOp .or _ _ _ _) ?_; first | refine ⟨_, fun hb => op_or8' rfl rfl (by decide), ?_⟩ | refine ⟨_, fun hb => op_or8 rfl rfl (by decide), ?_⟩ | refine ⟨_, fun hb => op_orlow8 rfl rfl (by first | omega | (simp only [decide_eq_true_eq, decide_eq_false_iff_not, List.length_cons, List.length_nil, List.length_append, List.length_take, List.length_drop, maxLen] at *; omega)), ?_⟩ | fail)
  | (refine isG (.binOp .andNot _ _ _ _) ?_; first | refine ⟨_, fun hb => op_andn8 rfl rfl (by decide), ?_⟩ | fail)
  | (refine isG (.binOp .shr _ _ _ _) ?_; first | refine ⟨_, fun hb => op_shr8 rfl, ?_⟩ | fail)
  | (refine isG (.binOp .shl _ _ _ _) ?_; first | refine ⟨_, fun hb => op_shl8 rfl (InK.i64 (by first | omega | (simp only [decide_eq_true_eq, decide_eq_false_iff_not, List.length_cons, List.length_nil, List.length_append, List.length_take, List.length_drop, maxLen] at *; omega))), ?_⟩ | fail)
  | (refine isG (.unOp .not _ _) ?_; first | refine ⟨_, fun hb => op_not rfl, ?_⟩ | fail)
  | fail)
  all_goals ((refine HX.done (.inl rfl) ?_; refine RetT.oneA rfl rfl ?_); ((first | with_reducible exact Sub.refl _ | refine Sub.bool ?_ | refine Sub.int ?_ | refine Sub.str ?_ | refine Sub.sl ?_ | refine Sub.slx ?_ | refine Sub.nil' ?_ | (refine Sub.own ?_; first | with_reducible exact Sub.refl _ | refine Sub.sl ?_) | refine Sub.is ?_) <;> (try dsimp only) <;> try (first | with_reducible rfl | omega)))
  all_goals simp [*]
end Go.Proofs.Ytohhhaeemephnaa
set_option maxRecDepth 8000
set_option linter.unusedVariables false
namespace Go.Proofs.Ytohhhaeemephnaa
open Go.Vk
attribute [local irreducible] HT HX RegS RegA RegM OpP OpC AltT
attribute [local irreducible] Oct.numV Oct.numT Oct.numE Oct.bytV Oct.bytT Oct.bytE Oct.rows
/-- Where numbers are laid. -/
abbrev cP (p : Nat × Nat) : List Ty := [Is (pAt p.1 p.2)]
theorem rdNums2 (g h c : Nat) (l : List UInt8) (b : Bool) (T0 T1 T2 : Ty) (e e' : TypeId) (hl : l.length ≤ 134000000) : CallsC Try.prog 41 [Is (pAt g 0), TSl 1 cP [(h, 0), (c, 0)]] [QX g l b, ownP h e [T0, T1], ownP c e' [T2]] (fun _ => TTup []) (fun _ => [QX g (Oct.numT (Oct.numT l)) (Oct.numE (Oct.numT l) (Oct.numE l b)), ownP h e [okI .i64 (Oct.numV l), T1], ownP c e' [okI .i64 (Oct.numV (Oct.numT l))]]) := by
  have c1 := rdNum
  have h1 := Oct.numT_len l
  have h0 : ([(h, 0), (c, 0)] : List (Nat × Nat)).length = 2 := rfl
  refine CallsC.of Try.call41 Try.func41 rfl Try.ntmps41 rfl fun w0 G0 S0 hs ho => ?_
  refine run ?_
  refine HT.loopX (σ := Nat × Oct.RS × Ty × Ty) [0, 7, 8] (fun t => [(9, okI .i64 (t.1 : Int))]) (fun t => [QX g t.2.1.1 t.2.1.2, ownP h e [t.2.2.1, T1], ownP c e' [t.2.2.2]]) (fun t => t.1 ≤ 2 ∧ t.2 = if t.1 = 0 then ((l, b), T0, T2) else if t.1 = 1 then ((Oct.numT l, Oct.numE l b), okI .i64 (Oct.numV l), T2) else ((Oct.numT (Oct.numT l), Oct.numE (Oct.numT l) (Oct.numE l b)), okI .i64 (Oct.numV l), okI .i64 (Oct.numV (Oct.numT l)))) (fun t => 2 - t.1) (0, (l, b), T0, T2) ⟨Nat.zero_le _, rfl⟩ (run trivial) (run trivial) ?_
  rintro ⟨i, s⟩ ⟨hi, hs⟩
  dsimp only at hi hs ⊢
  rcases (by omega : i = 0 ∨ i = 1 ∨ i = 2) with rfl | rfl | rfl
  · have hs' : s = ((l, b), T0, T2) := hs
    subst hs'
    refine run ?_
    intro _ _
    dsimp only [List.getD_cons_zero, List.getD_cons_succ, List.set_cons_zero, List.set_cons_succ]
    exact HX.roundX (1, (Oct.numT l, Oct.numE l b), okI .i64 (Oct.numV l), T2) ⟨⟨by dsimp only; omega, rfl⟩, by dsimp only; omega⟩ rfl (run trivial) (run trivial)
  · have hs' : s = ((Oct.numT l, Oct.numE l b), okI .i64 (Oct.numV l), T2) := hs
    subst hs'
    refine run ?_
    intro _ _
    dsimp only [List.getD_cons_zero, List.getD_cons_succ, List.set_cons_zero, List.set_cons_succ]
    exact HX.roundX (2, (Oct.numT (Oct.numT l), Oct.numE (Oct.numT l) (Oct.numE l b)), okI .i64 (Oct.numV l), okI .i64 (Oct.numV (Oct.numT l))) ⟨⟨by dsimp only; omega, rfl⟩, by dsimp only; omega⟩ rfl (run trivial) (run trivial)
  · have hs' : s = ((Oct.numT (Oct.numT l), Oct.numE (Oct.numT l) (Oct.numE l b)), okI .i64 (Oct.numV l), okI .i64 (Oct.numV (Oct.numT l))) := hs
    subst hs'
    exact run trivial
theorem rdNums3 (g h : Nat) (l : List UInt8) (b : Bool) (T0 T1 T2 T3 T4 : Ty) (e : TypeId) (hl : l.length ≤ 134000000) : CallsC Try.prog 41 [Is (pAt g 0), TSl 1 cP [(h, 0), (h, 1), (h, 2)]] [QX g l b, ownP h e [T0, T1, T2, T3, T4]] (fun _ => TTup []) (fun _ => [QX g (Oct.numT (Oct.numT (Oct.numT l))) (Oct.numE (Oct.numT (Oct.numT l)) (Oct.numE (Oct.numT l) (Oct.numE l b))), ownP h e [okI .i64 (Oct.numV l), okI .i64 (Oct.numV (Oct.numT l)), okI .i64 (Oct.numV (Oct.numT (Oct.numT l))), T3, T4]]) := by
  have c1 := rdNum
  have h1 := Oct.numT_len l
  have h2 := Oct.numT_len (Oct.numT l)
  have h0 : ([(h, 0), (h, 1), (h, 2)] : List (Nat × Nat)).length = 3 := rfl
  refine CallsC.of Try.call41 Try.func41 rfl Try.ntmps41 rfl fun w0 G0 S0 hs ho => ?_
  refine run ?_
  refine HT.loopX (σ := Nat × Oct.RS × Ty × Ty × Ty) [0, 7, 8] (fun t => [(9, okI .i64 (t.1 : Int))]) (fun t => [QX g t.2.1.1 t.2.1.2, ownP h e [t.2.2.1, t.2.2.2.1, t.2.2.2.2, T3, T4]]) (fun t => t.1 ≤ 3 ∧ t.2 = if t.1 = 0 then ((l, b), T0, T1, T2) else if t.1 = 1 then ((Oct.numT l, Oct.numE l b), okI .i64 (Oct.numV l), T1, T2) else if t.1 = 2 then ((Oct.numT (Oct.numT l), Oct.numE (Oct.numT l) (Oct.numE l b)), okI .i64 (Oct.numV l), okI .i64 (Oct.numV (Oct.numT l)), T2) else ((Oct.numT (Oct.numT (Oct.numT l)), Oct.numE (Oct.numT (Oct.numT l)) (Oct.numE (Oct.numT l) (Oct.numE l b))), okI .i64 (Oct.numV l), okI .i64 (Oct.numV (Oct.numT l)), okI .i64 (Oct.numV (Oct.numT (Oct.numT l))))) (fun t => 3 - t.1) (0, (l, b), T0, T1, T2) ⟨Nat.zero_le _, rfl⟩ (run trivial) (run trivial) ?_
  rintro ⟨i, s⟩ ⟨hi, hs⟩
  dsimp only at hi hs ⊢
  rcases (by omega : i = 0 ∨ i = 1 ∨ i = 2 ∨ i = 3) with rfl | rfl | rfl | rfl
  · have hs' : s = ((l, b), T0, T1, T2) := hs
    subst hs'
    refine run ?_
    intro _ _
    dsimp only [List.getD_cons_zero, List.getD_cons_succ, List.set_cons_zero, List.set_cons_succ]
    exact HX.roundX (1, (Oct.numT l, Oct.numE l b), okI .i64 (Oct.numV l), T1, T2) ⟨⟨by dsimp only; omega, rfl⟩, by dsimp only; omega⟩ rfl (run trivial) (run trivial)
  · have hs' : s = ((Oct.numT l, Oct.numE l b), okI .i64 (Oct.numV l), T1, T2) := hs
    subst hs'
    refine run ?_
    intro _ _
    dsimp only [List.getD_cons_zero, List.getD_cons_succ, List.set_cons_zero, List.set_cons_succ]
    exact HX.roundX (2, (Oct.numT (Oct.numT l), Oct.numE (Oct.numT l) (Oct.numE l b)), okI .i64 (Oct.numV l), okI .i64 (Oct.numV (Oct.numT l)), T2) ⟨⟨by dsimp only; omega, rfl⟩, by dsimp only; omega⟩ rfl (run trivial) (run trivial)
  · have hs' : s = ((Oct.numT (Oct.numT l), Oct.numE (Oct.numT l) (Oct.numE l b)), okI .i64 (Oct.numV l), okI .i64 (Oct.numV (Oct.numT l)), T2) := hs
    subst hs'
    refine run ?_
    intro _ _
    dsimp only [List.getD_cons_zero, List.getD_cons_succ, List.set_cons_zero, List.set_cons_succ]
    exact HX.roundX (3, (Oct.numT (Oct.numT (Oct.numT l)), Oct.numE (Oct.numT (Oct.numT l)) (Oct.numE (Oct.numT l) (Oct.numE l b))), okI .i64 (Oct.numV l), okI .i64 (Oct.numV (Oct.numT l)), okI .i64 (Oct.numV (Oct.numT (Oct.numT l)))) ⟨⟨by dsimp only; omega, rfl⟩, by dsimp only; omega⟩ rfl (run trivial) (run trivial)
  · have hs' : s = ((Oct.numT (Oct.numT (Oct.numT l)), Oct.numE (Oct.numT (Oct.numT l)) (Oct.numE (Oct.numT l) (Oct.numE l b))), okI .i64 (Oct.numV l), okI .i64 (Oct.numV (Oct.numT l)), okI .i64 (Oct.numV (Oct.numT (Oct.numT l)))) := hs
    subst hs'
    exact run trivial
end Go.Proofs.Ytohhhaeemephnaa
set_option maxRecDepth 8000
set_option linter.unusedVariables false
namespace Go.Proofs.Ytohhhaeemephnaa
open Go.Vk
attribute [local irreducible] HT HX RegS RegA RegM OpP OpC AltT
theorem lvEqual (a b : List UInt8) : CFn Try.prog 44 [TBytes a, TBytes b] (Is (.bool (decide (a = b)))) := by
  refine CallsC.of Try.call44 Try.func44 rfl Try.ntmps44 rfl fun w0 G0 S0 hs ho => ?_
  exact run trivial
theorem rdNums2X (g h c : Nat) (l : List UInt8) (b : Bool) (T0 T1 T2 : Ty) (e e' : TypeId) (hl : l.length ≤ 134000000) : CallsC Try.prog 41 [Is (pAt g 0), TSlX 1 (fun ts : List Ty => ts) [[Is (pAt h 0)], [Is (pAt c 0)]]] [QX g l b, ownP h e [T0, T1], ownP c e' [T2]] (fun _ => TTup []) (fun _ => [QX g (Oct.numT (Oct.numT l)) (Oct.numE (Oct.numT l) (Oct.numE l b)), ownP h e [okI .i64 (Oct.numV l), T1], ownP c e' [okI .i64 (Oct.numV (Oct.numT l))]]) :=
  subA (rdNums2 g h c l b T0 T1 T2 e e' hl) (TsSub.cons (Sub.refl _) (TsSub.cons (Sub.slxT rfl) TsSub.nil))
theorem rdNums3X (g h : Nat) (l : List UInt8) (b : Bool) (T0 T1 T2 T3 T4 : Ty) (e : TypeId) (hl : l.length ≤ 134000000) : CallsC Try.prog 41 [Is (pAt g 0), TSlX 1 (fun ts : List Ty => ts) [[Is (pAt h 0)], [Is (pAt h 1)], [Is (pAt h 2)]]] [QX g l b, ownP h e [T0, T1, T2, T3, T4]] (fun _ => TTup []) (fun _ => [QX g (Oct.numT (Oct.numT (Oct.numT l))) (Oct.numE (Oct.numT (Oct.numT l)) (Oct.numE (Oct.numT l) (Oct.numE l b))), ownP h e [okI .i64 (Oct.numV l), okI .i64 (Oct.numV (Oct.numT l)), okI .i64 (Oct.numV (Oct.numT (Oct.numT l))), T3, T4]]) :=
  subA (rdNums3 g h l b T0 T1 T2 T3 T4 e hl) (TsSub.cons (Sub.refl _) (TsSub.cons (Sub.slxT rfl) TsSub.nil))
theorem decF_def (s : List UInt8) : Lv.decF s = Oct.rows Lv.stepF Oct.badS Oct.lenS (Oct.numV (Oct.numT s)) [] (Oct.numT (Oct.numT s), Oct.numE (Oct.numT s) (Oct.numE s false)) := rfl
theorem decV_def (s : List UInt8) : Lv.decV s = ⟨Oct.numV s, (Lv.decF s).1⟩ := rfl
theorem stepF_def (r : List UInt8) (e : Bool) : Lv.stepF (r, e) = (⟨Oct.numV r, Oct.numV (Oct.numT r), Oct.numV (Oct.numT (Oct.numT r)), Oct.bytV (Oct.numT (Oct.numT (Oct.numT r))), Oct.bytV (Oct.bytT (Oct.numT (Oct.numT (Oct.numT r))))⟩, (Oct.bytT (Oct.bytT (Oct.numT (Oct.numT (Oct.numT r)))), Oct.bytE (Oct.bytT (Oct.numT (Oct.numT (Oct.numT r)))) (Oct.bytE (Oct.numT (Oct.numT (Oct.numT r))) (Oct.numE (Oct.numT (Oct.numT r)) (Oct.numE (Oct.numT r) (Oct.numE r e)))))) := rfl
theorem encode_1 {v : Lv.Ver} (h : Lv.isV v = true) : (Lv.encodeV v).1 = Lv.encV v ∧ (Lv.encodeV v).2 = 0 := by rw [Lv.encode_yes h]; exact ⟨rfl, rfl⟩
theorem encode_0 {v : Lv.Ver} (h : Lv.isV v = false) : (Lv.encodeV v).1 = [] ∧ (Lv.encodeV v).2 = 1 := by rw [Lv.encode_no h]; exact ⟨rfl, rfl⟩
attribute [local irreducible] Oct.numV Oct.numT Oct.numE Oct.bytV Oct.bytT Oct.bytE Oct.rows Lv.stepF Lv.isV Lv.encV Lv.encodeV Lv.decF Lv.decV Lv.okD
set_option maxHeartbeats 4000000 in
theorem lvDecode (s : List UInt8) (hl : s.length ≤ 134000000) : CFn Try.prog 21 [TBytes s] (TTup [TAgg (Lv.cVer (if Lv.okD s = true then Lv.decV s else Lv.zV)), okI .i64 (if Lv.okD s = true then 0 else 3)]) := by
  have c0 := rdNew
  have c1 := rdNums2X
  have c1' := rdNums3X
  have c2 := rdBytes
  have c3 := rdGoodC
  have c4 := lvEqual
  have h1 := Oct.numT_len s
  have h1' := Oct.numT_len (Oct.numT s)
  have pl1 := Plan.mk' 8 [(0,3,[]),(3,3,[]),(6,3,[]),(8,3,[]),(1,0,[]),(2,3,[]),(4,0,[]),(5,3,[]),(7,0,[]),(9,0,[])]
  refine CallsC.of Try.call21 Try.func21 rfl Try.ntmps21 rfl fun w0 G0 S0 hs ho => ?_
  refine run ?_
  intro v1 v2 v3 v4
  refine HT.loopX (σ := List Lv.File × Oct.RS × Value) [0, 2, 3, 4, 5, 6] (fun t => []) (fun t => [ownP (blk v1) 24 [okI .i64 0, Is (.slice none 0 0)], ownP (blk v2) 24 [okI .i64 (Oct.numV s), TAnd (Is t.2.2) (TSl 5 Lv.cFile t.1)], ownP (blk v3) 3 [okI .i64 (Oct.numV (Oct.numT s))], QX (blk v4) t.2.1.1 t.2.1.2, ownSl t.2.2 5 31]) (fun t => Oct.rows Lv.stepF Oct.badS Oct.lenS (Oct.numV (Oct.numT s)) t.1 t.2.1 = Lv.decF s ∧ Oct.Left s.length t.1.length t.2.1) (fun t => Oct.leftN t.2.1) ([], (Oct.numT (Oct.numT s), Oct.numE (Oct.numT s) (Oct.numE s false)), .slice none 0 0) ⟨(decF_def s).symm, Oct.Left.start (Nat.le_trans h1' h1)⟩ (run trivial) (run trivial) ?_
  rintro ⟨acc, ⟨r, e⟩, v⟩ ⟨hr, hlen⟩
  dsimp only at hr hlen ⊢
  have hb := hlen.bd
  have hbr := hlen.bl
  dsimp only at hb hbr
  have hb1 := Oct.numT_len r
  have hb2 := Oct.numT_len (Oct.numT r)
  have hb3 := Oct.numT_len (Oct.numT (Oct.numT r))
  have hb4 := Oct.bytT_le (Oct.numT (Oct.numT (Oct.numT r)))
  refine run ?_
  refine ⟨fun v5 v' hc => ?_, fun hc => ?_⟩
  · have hgo := Oct.rows_go Lv.eatsF hc.1 (s := (r, e)) hc.2
    rw [hgo] at hr
    have hlf := hlen.next (s' := (Lv.stepF (r, e)).2) hc.2 (Lv.eatsF.eat (r, e) hc.2) (Lv.stepF_len (r, e))
    rw [stepF_def] at hr hlf
    refine HX.roundX (acc ++ [⟨Oct.numV r, Oct.numV (Oct.numT r), Oct.numV (Oct.numT (Oct.numT r)), Oct.bytV (Oct.numT (Oct.numT (Oct.numT r))), Oct.bytV (Oct.bytT (Oct.numT (Oct.numT (Oct.numT r))))⟩], (Oct.bytT (Oct.bytT (Oct.numT (Oct.numT (Oct.numT r)))), Oct.bytE (Oct.bytT (Oct.numT (Oct.numT (Oct.numT r)))) (Oct.bytE (Oct.numT (Oct.numT (Oct.numT r))) (Oct.numE (Oct.numT (Oct.numT r)) (Oct.numE (Oct.numT r) (Oct.numE r e))))), v') ⟨⟨hr, by dsimp only; rw [List.length_append]; exact hlf.1⟩, hlf.2⟩ rfl (run trivial) (run trivial)
  have hd1 : Lv.decF s = (acc, (r, e)) := by
    rw [← hr, Oct.rows_end (by intro x; rcases hc with h | h; exact h x.1; exact Bool.noConfusion (h.symm.trans x.2))]
  have hdn : Lv.decV s = ⟨Oct.numV s, acc⟩ := by rw [decV_def, hd1]
  have c5 := lvEncode (Lv.decV s)
  have hk1 := Lv.okD_no (s := s)
  have hk2 := Lv.okD_yes (s := s)
  rw [hdn] at c5 hk1 hk2 ⊢
  clear c0 c1 c2 c3
  cases hN : Lv.isV ⟨Oct.numV s, acc⟩ with
  | true =>
    obtain ⟨e1, e2⟩ := encode_1 hN
    rw [e1, e2] at c5
    by_cases hE : Lv.encV ⟨Oct.numV s, acc⟩ = s
    · rw [hE] at c5
      rw [hk2 ⟨hN, hE⟩, if_pos rfl, if_pos rfl]
      exact run trivial
    · rw [hk1 (.inr hE), if_neg (by simp), if_neg (by simp)]
      refine run ?_
      exact ⟨fun _ => rfl, fun _ => rfl, fun h => (hE h.2).elim, fun h => (hE h.2).elim, fun h => (hE h.2).elim⟩
  | false =>
    obtain ⟨e1, e2⟩ := encode_0 hN
    rw [e1, e2] at c5
    rw [hk1 (.inl hN), if_neg (by simp), if_neg (by simp)]
    refine run ?_
    exact ⟨fun _ => rfl, fun _ => rfl⟩
set_option maxHeartbeats 4000000 in
theorem rl11Decode (s : List UInt8) (hl : s.length ≤ 134000000) : CFn Try.prog 22 [TBytes s] (TTup [TAgg (Lv.cVer (if Lv.okD s = true then Lv.decV s else Lv.zV)), okI .i64 (if Lv.okD s = true then 0 else 3)]) := by
  have c1 := rfNumR
  have c2 := rfBytesR
  have h1 := Oct.numT_len s
  have h1' := Oct.numT_len (Oct.numT s)
  have mu := Mut.mk' [13]
  have hb0 : Oct.numE s false = true → Oct.numT s = [] := Oct.numE_nil (by simp)
  have hb1 : Oct.numE (Oct.numT s) (Oct.numE s false) = true → Oct.numT (Oct.numT s) = [] := Oct.numE_nil hb0
  refine CallsC.of Try.call22 Try.func22 rfl Try.ntmps22 rfl fun w0 G0 S0 hs ho => ?_
  refine run ?_
  refine ⟨fun v1 v2 v3 => ?_, by simp⟩
  refine HT.loopX (σ := List Lv.File × Oct.RS × Value) [0, 2, 3, 4, 5, 6] (fun t => [(7, okI .i64 (t.1.length : Int))]) (fun t => [ownP (blk v1) 24 [okI .i64 0, Is (.slice none 0 0)], EX (blk v2) t.2.1.1 t.2.1.2, ownP (blk v3) 24 [okI .i64 (Oct.numV s), TAnd (Is t.2.2) (TSl 5 Lv.cFile t.1)], ownSl t.2.2 5 31]) (fun t => Oct.rows Lv.stepF Oct.badS Oct.lenS (Oct.numV (Oct.numT s)) t.1 t.2.1 = Lv.decF s ∧ Oct.Left s.length t.1.length t.2.1 ∧ (t.2.1.2 = true → t.2.1.1 = [])) (fun t => Oct.leftN t.2.1) ([], (Oct.numT (Oct.numT s), Oct.numE (Oct.numT s) (Oct.numE s false)), .slice none 0 0) ⟨(decF_def s).symm, Oct.Left.start (Nat.le_trans h1' h1), hb1⟩ (run trivial) (run trivial) ?_
  rintro ⟨acc, ⟨r, e⟩, v⟩ ⟨hr, hlen, he⟩
  dsimp only at hr hlen he ⊢
  have hb := hlen.bd
  have hbr := hlen.bl
  dsimp only at hb hbr
  have g1 := Oct.numT_len r
  have g2 := Oct.numT_len (Oct.numT r)
  have g3 := Oct.numT_len (Oct.numT (Oct.numT r))
  have g4 := Oct.bytT_le (Oct.numT (Oct.numT (Oct.numT r)))
  have he1 : Oct.numE r e = true → Oct.numT r = [] := Oct.numE_nil he
  have he2 : Oct.numE (Oct.numT r) (Oct.numE r e) = true → Oct.numT (Oct.numT r) = [] := Oct.numE_nil he1
  have he3 : Oct.numE (Oct.numT (Oct.numT r)) (Oct.numE (Oct.numT r) (Oct.numE r e)) = true → Oct.numT (Oct.numT (Oct.numT r)) = [] := Oct.numE_nil he2
  have he4 : Oct.bytE (Oct.numT (Oct.numT (Oct.numT r))) (Oct.numE (Oct.numT (Oct.numT r)) (Oct.numE (Oct.numT r) (Oct.numE r e))) = true → Oct.bytT (Oct.numT (Oct.numT (Oct.numT r))) = [] := Oct.bytE_nil he3
  have he5 : Oct.bytE (Oct.bytT (Oct.numT (Oct.numT (Oct.numT r)))) (Oct.bytE (Oct.numT (Oct.numT (Oct.numT r))) (Oct.numE (Oct.numT (Oct.numT r)) (Oct.numE (Oct.numT r) (Oct.numE r e)))) = true → Oct.bytT (Oct.bytT (Oct.numT (Oct.numT (Oct.numT r)))) = [] := Oct.bytE_nil he4
  refine run ?_
  refine ⟨fun v5 v' hc => ?_, fun hc => ?_⟩
  · have hgo := Oct.rows_go Lv.eatsF hc.1 (s := (r, e)) hc.2
    rw [hgo] at hr
    have hlf := hlen.next (s' := (Lv.stepF (r, e)).2) hc.2 (Lv.eatsF.eat (r, e) hc.2) (Lv.stepF_len (r, e))
    rw [stepF_def] at hr hlf
    refine HX.roundX (acc ++ [⟨Oct.numV r, Oct.numV (Oct.numT r), Oct.numV (Oct.numT (Oct.numT r)), Oct.bytV (Oct.numT (Oct.numT (Oct.numT r))), Oct.bytV (Oct.bytT (Oct.numT (Oct.numT (Oct.numT r))))⟩], (Oct.bytT (Oct.bytT (Oct.numT (Oct.numT (Oct.numT r)))), Oct.bytE (Oct.bytT (Oct.numT (Oct.numT (Oct.numT r)))) (Oct.bytE (Oct.numT (Oct.numT (Oct.numT r))) (Oct.numE (Oct.numT (Oct.numT r)) (Oct.numE (Oct.numT r) (Oct.numE r e))))), v') ⟨⟨hr, by dsimp only; rw [List.length_append]; exact hlf.1, he5⟩, hlf.2⟩ rfl (run trivial) (run trivial)
  have hd1 : Lv.decF s = (acc, (r, e)) := by
    rw [← hr, Oct.rows_end (by intro x; rcases hc with h | h; exact h x.1; exact Bool.noConfusion (h.symm.trans x.2))]
  have hdn : Lv.decV s = ⟨Oct.numV s, acc⟩ := by rw [decV_def, hd1]
  have c5 := rl11Encode (Lv.decV s)
  have hk1 := Lv.okD_no (s := s)
  have hk2 := Lv.okD_yes (s := s)
  have hk3 : Lv.okD s = true → e = false := fun h => by
    have := Lv.okD_good h
    rw [hd1] at this
    exact congrArg (fun x => x.2) this
  rw [hdn] at c5 hk1 hk2 ⊢
  clear c1 c2
  cases hN : Lv.isV ⟨Oct.numV s, acc⟩ with
  | true =>
    obtain ⟨e1, e2⟩ := encode_1 hN
    rw [e1, e2] at c5
    by_cases hE : Lv.encV ⟨Oct.numV s, acc⟩ = s
    · rw [hE] at c5
      have hok := hk2 ⟨hN, hE⟩
      have hf0 := hk3 hok
      subst hf0
      rw [hok, if_pos rfl, if_pos rfl]
      refine run ?_
      exact ⟨fun h => absurd rfl h, fun h => absurd rfl h, fun h => absurd rfl h⟩
    · rw [hk1 (.inr hE), if_neg (by simp), if_neg (by simp)]
      refine run ?_
      exact ⟨fun _ => rfl, fun _ => rfl, fun h => (h.2 hE).elim, fun h => (h.2 hE).elim, fun h => (h.2 hE).elim⟩
  | false =>
    obtain ⟨e1, e2⟩ := encode_0 hN
    rw [e1, e2] at c5
    rw [hk1 (.inl hN), if_neg (by simp), if_neg (by simp)]
    refine run ?_
    exact ⟨fun _ => rfl, fun _ => rfl⟩
end Go.Proofs.Ytohhhaeemephnaa
set_option linter.unusedVariables false
namespace Go.Vk
/-- Whatever reads as a t reads as some a, cell by cell. -/
structure Opn (P : Program) (t : TypeId) {α : Type} (f : α → List Ty) (ok : α → Prop) : Prop where
  size : ∀ a, (f a).length = P.cellsOf t
  go : ∀ {H : Type} (enc : TypeId × Value → H) (W : World) (fuel : Nat) (cs : List Value) (x : DataW H × List MemPlace), DataW.trod enc P W 0 (fun _ => true) true fuel t cs = some x → (∀ n ∈ x.1.weights P t, n ≤ reachBytes) →
    ∃ a, ok a ∧ cs.length = (f a).length ∧ ∀ (j : Nat) (T : Ty) (u : Value), (f a)[j]? = some T → cs[j]? = some u → T.p (heapImm W) u ∧ u.oneCell' = true
section
variable {P : Program} {t : TypeId}
theorem one_at {T : Ty} {v : Value} {G : Imm} (h : T.p G v) (h1 : v.oneCell' = true) : ∀ (j : Nat) (U : Ty) (u : Value), [T][j]? = some U → [v][j]? = some u → U.p G u ∧ u.oneCell' = true := by
  intro j U u hj hu
  cases j with
  | zero => simp at hj hu; subst hj; subst hu; exact ⟨h, h1⟩
  | succ j => simp at hj
theorem Opn.str (ht : P.underlying t = some .string) (hs : P.cellsOf t = 1) : Opn P t cS (fun l => l.length ≤ reachBytes) where
  size := fun _ => hs.symm
  go := by
    intro H enc W fuel cs x h hw
    obtain ⟨s, rfl, rfl, hm⟩ := DataW.trod_string ht h
    refine ⟨s.data.toList, hw _ (by simp [DataW.weights]), rfl, one_at ?_ rfl⟩
    show Value.string s = .string _
    simp
theorem Opn.int {k : IntKind} (ht : P.underlying t = some (.int k)) (hs : P.cellsOf t = 1) : Opn P t (fun n : Int => [okI k n]) (fun n => (Lit.int k n).wf = true) where
  size := fun _ => hs.symm
  go := by
    intro H enc W fuel cs x h hw
    obtain ⟨n, rfl, rfl, hm⟩ := DataW.trod_int ht h
    exact ⟨n, hm, rfl, one_at rfl rfl⟩
theorem Opn.byte (ht : P.underlying t = some (.int .u8)) (hs : P.cellsOf t = 1) : Opn P t cB (fun _ => True) where
  size := fun _ => hs.symm
  go := by
    intro H enc W fuel cs x h hw
    obtain ⟨n, rfl, rfl, hm⟩ := DataW.trod_int ht h
    exact ⟨b8 n, trivial, rfl, one_at (arg_u8 hm) rfl⟩
theorem Opn.bool (ht : P.underlying t = some .bool) (hs : P.cellsOf t = 1) : Opn P t (fun b : Bool => [Is (.bool b)]) (fun _ => True) where
  size := fun _ => hs.symm
  go := by
    intro H enc W fuel cs x h hw
    obtain ⟨b, rfl, rfl⟩ := DataW.trod_bool ht h
    exact ⟨b, trivial, rfl, one_at rfl rfl⟩
theorem Opn.map {α β : Type} {f : α → List Ty} {ok : α → Prop} (h : Opn P t f ok) (g : α → β) {f' : β → List Ty} {ok' : β → Prop} (hs : ∀ b, (f' b).length = P.cellsOf t) (hf : ∀ a, f' (g a) = f a) (hok : ∀ a, ok a → ok' (g a)) : Opn P t f' ok' where
  size := hs
  go := by
    intro H enc W fuel cs x hx hw
    obtain ⟨a, h1, h2, h3⟩ := h.go enc W fuel cs x hx hw
    refine ⟨g a, hok a h1, by rw [hf]; exact h2, by rw [hf]; exact h3⟩
theorem add_none (b o n : Nat) : (⟨b, o, none⟩ : Addr).add n = ⟨b, o + n, none⟩ := by
  unfold Addr.add
  split
  · rename_i h; simp [h]
  · rfl
theorem weightsAll_mem {H : Type} {e : TypeId} : ∀ {ds : List (DataW H)} {d : DataW H}, d ∈ ds → ∀ n ∈ d.weights P e, n ∈ DataW.weightsAll P e ds
  | d0 :: ds, d, hd, n, hn => by
    simp only [DataW.weightsAll, List.mem_append]
    rcases List.mem_cons.1 hd with rfl | hd
    · exact .inl hn
    · exact .inr (weightsAll_mem hd n hn)
theorem Opn.slice {e : TypeId} {α : Type} {f : α → List Ty} {ok : α → Prop} (h : Opn P e f ok) (ht : P.underlying t = some (.slice e)) (hs : P.cellsOf t = 1) (hz : Nat.blt 0 (P.cellsOf e) = true) : Opn P t (cL (P.cellsOf e) f) (fun l => l.length * P.bytesOf e ≤ reachBytes ∧ ∀ a ∈ l, ok a) where
  size := fun _ => hs.symm
  go := by
    intro H enc W fuel cs x hx hw
    have hz : 0 < P.cellsOf e := Nat.le_of_ble_eq_true hz
    rcases DataW.trod_slice ht hx with ⟨rfl, rfl⟩ | ⟨a, len, cap, elems, rest, n, rfl, rfl, rfl, _, hlc, hcm, hel, hget, _, _⟩
    · exact ⟨[], ⟨by simp, by simp⟩, rfl, one_at (TSlX.sl (nil_sl _ f _)) rfl⟩
    · have key : ∀ i : Fin len, ∃ y : α, ok y ∧ ∃ cs', W.cells? 0 (a.add (i.val * P.cellsOf e)) (P.cellsOf e) = some cs' ∧ ∀ (j : Nat) (T : Ty) (u : Value), (f y)[j]? = some T → cs'[j]? = some u → T.p (heapImm W) u ∧ u.oneCell' = true := by
        intro i
        have hi := hget i.val i.isLt
        have hlt : i.val < elems.length := by rw [hel]; exact i.isLt
        rw [List.getElem?_eq_getElem hlt, Option.bind_eq_some_iff] at hi
        obtain ⟨cs', h1, h2⟩ := hi
        obtain ⟨y, g1, g2, g3⟩ := h.go enc W n cs' _ h2 (fun m hm => hw m (by
          simp only [DataW.weights, ht]
          refine List.mem_cons_of_mem _ (List.mem_append_left _ ?_)
          exact weightsAll_mem (List.mem_map.2 ⟨_, List.getElem_mem hlt, rfl⟩) m hm))
        exact ⟨y, g1, cs', h1, g3⟩
      let l : List α := List.ofFn fun i : Fin len => (key i).choose
      have hll : l.length = len := by simp [l]
      have hl : ∀ (i : Nat) (y : α), l[i]? = some y → ∃ hi : i < len, y = (key ⟨i, hi⟩).choose := by
        intro i y hy
        have hi : i < len := by have := (List.getElem?_eq_some_iff.1 hy).1; omega
        refine ⟨hi, ?_⟩
        simp only [l, List.getElem?_ofFn, hi, dite_true, Option.some.injEq] at hy
        exact hy.symm
      refine ⟨l, ⟨?_, ?_⟩, rfl, one_at ?_ rfl⟩
      · have := hw ((elems.length + rest.length) * P.bytesOf e) (by simp only [DataW.weights, ht, List.length_map]; exact List.mem_cons_self)
        have h2 : l.length * P.bytesOf e ≤ (elems.length + rest.length) * P.bytesOf e := Nat.mul_le_mul_right _ (by omega)
        omega
      · intro y hy
        obtain ⟨i, hi⟩ := List.mem_iff_getElem?.1 hy
        obtain ⟨hlt, rfl⟩ := hl i y hi
        exact (key ⟨i, hlt⟩).choose_spec.1
      · refine ⟨some a, cap, by rw [hll], by omega, hcm, (fun e => by cases e), (fun e => by cases e), fun ad e => ?_⟩
        cases e
        have hspot : 0 < len → a.spot = none := by
          intro hp
          obtain ⟨_, cs', h1, _⟩ := (key ⟨0, hp⟩).choose_spec
          have h2 := (World.cells?_some h1).2.2 0 hz
          have h3 : ∃ u, W.cell? ((a.add (0 * P.cellsOf e)).add 0) = some u := by
            have h4 := (World.cells?_some h1).2.1
            exact ⟨_, h2.trans (List.getElem?_eq_getElem (by omega))⟩
          obtain ⟨u, hu⟩ := h3
          have := World.cell?_spot hu
          simpa [Addr.add] using this
        refine ⟨fun hp => hspot (by omega), fun i y hy => ⟨h.size y, ?_⟩⟩
        obtain ⟨hlt, rfl⟩ := hl i y hy
        obtain ⟨_, cs', h1, h3⟩ := (key ⟨i, hlt⟩).choose_spec
        have hsp := hspot (by omega)
        intro j T hT
        have hj : j < P.cellsOf e := by have := (List.getElem?_eq_some_iff.1 hT).1; rw [h.size] at this; exact this
        have h5 := World.cells?_some h1
        have hcj : cs'[j]? = some cs'[j] := List.getElem?_eq_getElem (by omega)
        refine ⟨cs'[j], ?_, h3 j T _ hT hcj⟩
        have h6 := h5.2.2 j hj
        rw [hcj] at h6
        show W.cell? _ = _
        rw [← h6]
        obtain ⟨b, o, sp⟩ := a
        have hsp : sp = none := hsp
        subst hsp
        rw [add_none, add_none]
/-! ### structs -/
inductive OpnF (P : Program) : List Field → Nat → Nat → (α : Type) → (α → List Ty) → (α → Prop) → Prop
  | nil (off : Nat) : OpnF P [] off off Unit (fun _ => []) (fun _ => True)
  | cons {fd : Field} {fs : List Field} {off last : Nat} {A B : Type} {fa : A → List Ty} {oka : A → Prop} {fb : B → List Ty} {okb : B → Prop} (ho : fd.offset = off) (h : Opn P fd.type fa oka) (r : OpnF P fs (off + P.cellsOf fd.type) last B fb okb) : OpnF P (fd :: fs) off last (A × B) (fun p => fa p.1 ++ fb p.2) (fun p => oka p.1 ∧ okb p.2)
theorem OpnF.size {fs : List Field} {off last : Nat} {α : Type} {f : α → List Ty} {ok : α → Prop} (h : OpnF P fs off last α f ok) : ∀ a, off + (f a).length = last := by
  induction h with
  | nil off => intro a; simp
  | cons ho h r ih =>
    rintro ⟨a, b⟩
    have h1 := h.size a
    have h2 := ih b
    simp only [List.length_append]; omega
theorem OpnF.go {H : Type} {enc : TypeId × Value → H} {W : World} {fuel : Nat} {cs : List Value} {fs : List Field} {off last : Nat} {α : Type} {f : α → List Ty} {ok : α → Prop} (h : OpnF P fs off last α f ok) (hlen : cs.length = last) :
    ∀ (xs : List (DataW H × List MemPlace)), xs.length = fs.length → (∀ (i : Nat) (fd : Field), fs[i]? = some fd → DataW.trod enc P W 0 (fun _ => true) true fuel fd.type ((cs.drop fd.offset).take (P.cellsOf fd.type)) = xs[i]?) →
      (∀ n ∈ DataW.weightsEach P (fs.map (·.type)) (xs.map (·.1)), n ≤ reachBytes) →
      ∃ a, ok a ∧ ∀ (j : Nat) (T : Ty) (u : Value), (f a)[j]? = some T → cs[off + j]? = some u → T.p (heapImm W) u ∧ u.oneCell' = true := by
  induction h with
  | nil off => intro xs _ _ _; exact ⟨(), trivial, fun j T u hj => by simp at hj⟩
  | cons ho h r ih =>
    rename_i fd fs off last A B fa oka fb okb
    intro xs hl hx hw
    cases xs with
    | nil => simp at hl
    | cons x xs =>
      have h0 := hx 0 fd rfl
      simp only [List.getElem?_cons_zero] at h0
      obtain ⟨a, a1, a2, a3⟩ := h.go enc W fuel _ x h0 (fun n hn => hw n (by simp only [List.map_cons, DataW.weightsEach, List.mem_append]; exact .inl hn))
      obtain ⟨b, b1, b2⟩ := ih hlen xs (by simpa using hl) (fun i fd' hi => by
        have := hx (i + 1) fd' (by simpa using hi)
        simpa using this) (fun n hn => hw n (by simp only [List.map_cons, DataW.weightsEach, List.mem_append]; exact .inr hn))
      refine ⟨(a, b), ⟨a1, b1⟩, fun j T u hj hu => ?_⟩
      dsimp only at hj
      have hsz := h.size a
      by_cases hlt : j < (fa a).length
      · rw [List.getElem?_append_left hlt] at hj
        refine a3 j T u hj ?_
        rw [List.getElem?_take, List.getElem?_drop, if_pos (by omega), ho]
        exact hu
      · rw [List.getElem?_append_right (by omega)] at hj
        refine b2 _ T u hj ?_
        rw [← hu]
        congr 1; omega
theorem Opn.struct {fs : Array Field} {last : Nat} {α : Type} {f : α → List Ty} {ok : α → Prop} (ht : P.underlying t = some (.struct fs)) (hs : P.cellsOf t = last) (h : OpnF P fs.toList 0 last α f ok) : Opn P t f ok where
  size := fun a => by have := h.size a; omega
  go := by
    intro H enc W fuel cs x hx hw
    obtain ⟨xs, n, rfl, rfl, hl, hxl, hf⟩ := DataW.trod_struct ht hx
    obtain ⟨a, a1, a2⟩ := h.go (by omega) xs (by simpa using hxl) (fun i fd hi => hf i fd (by simpa using hi)) (fun n hn => hw n (by simp only [DataW.weights, ht]; exact hn))
    have hsz := h.size a
    exact ⟨a, a1, by omega, fun j T u hj hu => a2 j T u hj (by rw [Nat.zero_add]; exact hu)⟩
/-! ### arguments -/
section
variable {H : Type} {enc : TypeId × Value → H} {W : World} {v : Value} {d : DataW H} {ps : List MemPlace} {α : Type}
theorem Opn.one {T : α → Ty} {ok : α → Prop} (h : Opn P t (fun a => [T a]) ok) (hc : v.cells = #[v]) (hd : DataW.Trod enc P W 0 (fun _ => true) true t v d ps) (hw : ∀ n ∈ d.weights P t, n ≤ reachBytes) : ∃ a, ok a ∧ (T a).p (heapImm W) v := by
  obtain ⟨fuel, hf⟩ := hd
  obtain ⟨a, h1, h2, h3⟩ := h.go enc W fuel _ _ hf hw
  rw [hc] at h3
  exact ⟨a, h1, (h3 0 (T a) v rfl rfl).1⟩
theorem Opn.sl {e : TypeId} {sz : Nat} {f : α → List Ty} {ok : List α → Prop} {r : Reach} {b0 : Nat} (h : Opn P t (cL sz f) ok) (ht : P.underlying t = some (.slice e)) (hval : Value.okWide P W r b0 t v) (hd : DataW.Trod enc P W 0 (fun _ => true) true t v d ps) (hw : ∀ n ∈ d.weights P t, n ≤ reachBytes) : ∃ l, ok l ∧ (TSl sz f l).p (heapImm W) v := by
  obtain ⟨a, len, cap, rfl⟩ := WideShapes.okWide_slice ht hval
  exact Opn.one (T := fun l => TSl sz f l) h rfl hd hw
theorem Opn.st {ok : List UInt8 → Prop} {r : Reach} {b0 : Nat} (h : Opn P t cS ok) (ht : P.underlying t = some .string) (hval : Value.okWide P W r b0 t v) (hd : DataW.Trod enc P W 0 (fun _ => true) true t v d ps) (hw : ∀ n ∈ d.weights P t, n ≤ reachBytes) : ∃ l, ok l ∧ (Is (Vk.str l)).p (heapImm W) v := by
  obtain ⟨s, rfl⟩ := WideShapes.okWide_string ht hval
  exact Opn.one (T := fun l => Is (Vk.str l)) h rfl hd hw
theorem Opn.ag {fs : Array Field} {f : α → List Ty} {ok : α → Prop} {r : Reach} {b0 : Nat} (h : Opn P t f ok) (ht : P.underlying t = some (.struct fs)) (hval : Value.okWide P W r b0 t v) (hd : DataW.Trod enc P W 0 (fun _ => true) true t v d ps) (hw : ∀ n ∈ d.weights P t, n ≤ reachBytes) : ∃ a, ok a ∧ (TAgg (f a)).p (heapImm W) v := by
  obtain ⟨cs, rfl, hcs⟩ := WideShapes.okWide_struct ht hval
  obtain ⟨fuel, hf⟩ := hd
  obtain ⟨a, h1, h2, h3⟩ := h.go enc W fuel _ _ hf hw
  exact ⟨a, h1, cs.toList, by simp, by simpa [Value.cells] using h2, fun j T u hj hu => h3 j T u hj (by simpa [Value.cells] using hu)⟩
end
theorem weights_at {H : Type} {ts : List TypeId} {ds : List (DataW H)} (h : (DataW.weightsEach P ts ds).all (· ≤ reachBytes) = true) {j : Nat} {d : DataW H} (ht : ts[j]? = some t) (hd : ds[j]? = some d) : ∀ n ∈ d.weights P t, n ≤ reachBytes := fun n hn => by
  have := List.all_eq_true.1 h n (DataW.weights_mem_each ht hd n hn)
  simpa using this
theorem reach_le {n : Nat} (h : n ≤ reachBytes) : n ≤ 140737488351232 := h
end
end Go.Vk
set_option linter.unusedVariables false
namespace Go.Lv
open Go.Vk
/-- What a version is, however it may be. -/
def Okv (v : Ver) : Prop := v.files.length ≤ 140737488351232 ∧ ∀ f ∈ v.files, Okf f
theorem pick_len (v : Ver) : (pickV v).1.length ≤ 2048 := by
  unfold pickV
  cases h : isV v with
  | false => simp
  | true =>
    obtain ⟨_, _, h3, _⟩ := isV_head h
    rw [if_pos rfl]
    cases hp : (pickL v.files).2 with
    | false => rw [pick_false hp]; simp
    | true =>
      obtain ⟨n, z, hz⟩ := pick_true hp
      have h4 := hz.eq
      have h5 : ∀ z : List File, z.length ≤ v.files.length → (withL v.files n z).length ≤ 2048 := fun z hz => by
        unfold withL
        rw [List.length_append]
        have := over_len v.files (n + 1) (span z).1 (span z).2
        omega
      unfold pickL
      have a0 := at_len v.files 0
      have w : ∀ (m : Int) (z : List File), z.length ≤ 1024 → (withL v.files m z).length ≤ 2048 := fun m z hz => by
        unfold withL
        rw [List.length_append]
        have := over_len v.files (m + 1) (span z).1 (span z).2
        omega
      split
      · exact w _ _ (by omega)
      split
      · exact w _ _ (by simp)
      split
      · exact w _ _ (by simp)
      split
      · exact w _ _ (by simp)
      · simp
end Go.Lv
set_option maxRecDepth 8000
set_option linter.unusedVariables false
namespace Go.Proofs.Ytohhhaeemephnaa
open Go.Vk
attribute [local irreducible] HT HX RegS RegA RegM OpP OpC AltT
theorem lv_okf {v : Lv.Ver} (h : Lv.Okv v) : ∀ i, i < v.files.length → Lv.Okf (v.files.getD i default) := fun i hi => h.2 _ (Lv.mem_at hi)
attribute [local irreducible] Lv.isV Lv.pickV Lv.encodeV Lv.encV Lv.decV Lv.okD lvHeavyB
theorem lwLooks11 (v : Lv.Ver) (h : Lv.Okv v) : CFn Try.prog 5 [TAgg (Lv.cVer v)] (Is (.bool true)) := by
  have c0 := lvHeavy v.files (lv_okf h)
  have c1 := lvEncode v
  have c2 := rl11Encode v
  have c3 := lvPick v
  have c4 := rl11Pick v
  have c5 := lvIs v
  have c6 := rl11Is v
  have c7 := lvFiles (Lv.pickV v).1 (Lv.pickV v).1 (by have := Lv.pick_len v; omega)
  rw [decide_eq_true rfl] at c7
  have c8 := lvKnown
  clear h
  cases hb : lvHeavyB v.files with
  | true =>
    rw [hb] at c0
    refine CallsC.of Try.call5 Try.func5 rfl Try.ntmps5 rfl fun w0 G0 S0 hs ho => ?_
    exact run trivial
  | false =>
    rw [hb] at c0
    refine CallsC.of Try.call5 Try.func5 rfl Try.ntmps5 rfl fun w0 G0 S0 hs ho => ?_
    refine run ?_
    intro _
    simp
theorem lwDecodes11 (b : List UInt8) (hb : b.length ≤ 140737488351232) : CFn Try.prog 6 [TBytes b] (Is (.bool true)) := by
  have c8 := lvKnown
  by_cases hm : (2000 : Int) < (b.length : Int)
  · refine CallsC.of Try.call6 Try.func6 rfl Try.ntmps6 rfl fun w0 G0 S0 hs ho => ?_
    exact run trivial
  have c1 := lvDecode b (by omega)
  have c2 := rl11Decode b (by omega)
  have hlen : (if Lv.okD b = true then Lv.decV b else Lv.zV).files.length ≤ 100000 := by
    split
    · rename_i h
      have : Lv.isV (Lv.decV b) = true := by
        unfold Lv.okD at h
        rw [Bool.and_eq_true] at h; exact h.1
      have := (Lv.isV_head this).2.2.1
      omega
    · decide
  have c3 := lvSame (if Lv.okD b = true then Lv.decV b else Lv.zV) (if Lv.okD b = true then Lv.decV b else Lv.zV) hlen
  rw [decide_eq_true rfl] at c3
  have d1 : CFn Try.prog 21 [TBytes ([] ++ b)] (TTup [TAgg (Lv.cVer (if Lv.okD b = true then Lv.decV b else Lv.zV)), okI .i64 (if Lv.okD b = true then 0 else 3)]) := c1
  generalize (if Lv.okD b = true then Lv.decV b else Lv.zV) = x at *
  generalize (if Lv.okD b = true then (0 : Int) else 3) = y at *
  clear c1
  refine CallsC.of Try.call6 Try.func6 rfl Try.ntmps6 rfl fun w0 G0 S0 hs ho => ?_
  exact run trivial
theorem lwBack11 (v : Lv.Ver) (h : Lv.Okv v) : CFn Try.prog 7 [TAgg (Lv.cVer v)] (Is (.bool true)) := by
  have c0 := lvHeavy v.files (lv_okf h)
  have c5 := rl11Is v
  have c8 := lvKnown
  cases hb : lvHeavyB v.files with
  | true =>
    rw [hb] at c0
    refine CallsC.of Try.call7 Try.func7 rfl Try.ntmps7 rfl fun w0 G0 S0 hs ho => ?_
    exact run trivial
  | false =>
  rw [hb] at c0
  cases hN : Lv.isV v with
  | false =>
    rw [hN] at c5
    refine CallsC.of Try.call7 Try.func7 rfl Try.ntmps7 rfl fun w0 G0 S0 hs ho => ?_
    exact run trivial
  | true =>
    rw [hN] at c5
    have hV := Lv.isV_head hN
    have c1 := lvEncode v
    have hl := (Lv.encV_len hN).1
    have c2 := lvDecode (Lv.encV v) (by omega)
    rw [Lv.encode_yes hN] at c1
    rw [Lv.okD_enc hN, (Lv.dec_back hN).1, if_pos rfl, if_pos rfl] at c2
    have c3 := lvSame v v (by omega)
    rw [decide_eq_true rfl] at c3
    dsimp only at c1
    clear h
    refine CallsC.of Try.call7 Try.func7 rfl Try.ntmps7 rfl fun w0 G0 S0 hs ho => ?_
    exact run trivial
/-- Is a file among the first of some? -/
def seenP (p : List Lv.File) (k : Nat) (f : Lv.File) : Bool := (p.take k).any fun g => decide (g = f)
theorem seenP_succ {p : List Lv.File} {k : Nat} (h : k < p.length) (f : Lv.File) : seenP p (k + 1) f = (seenP p k f || decide (p.getD k default = f)) := Lv.any_snoc h
theorem seenP_all {p : List Lv.File} {k : Nat} {f : Lv.File} (h : ¬ k < p.length) (hf : f ∈ p) : seenP p k f = true := by
  unfold seenP
  rw [List.take_of_length_le (by omega), List.any_eq_true]
  exact ⟨f, hf, by simp⟩
theorem spanN_step {l : List Lv.File} {i : Nat} {n : Int} (h : i < l.length) : Lv.spanN n ((l.take i).foldl (Lv.spanN n) (Lv.span0 l)) (l.getD i default) = (l.take (i + 1)).foldl (Lv.spanN n) (Lv.span0 l) := (Lv.foldl_snoc (Lv.spanN n) _ h).symm
theorem spanN_eq {s : List UInt8 × List UInt8} {f : Lv.File} {n : Int} (h : f.level = n) : Lv.spanN n s f = (if sless s.1 f.first || s.1 == f.first then s.1 else f.first, if sless s.2 f.last then f.last else s.2) := if_pos h
theorem spanN_ne {s : List UInt8 × List UInt8} {f : Lv.File} {n : Int} (h : ¬ f.level = n) : Lv.spanN n s f = s := if_neg h
attribute [local irreducible] seenP Lv.spanN Lv.overL Lv.span Lv.pickL
set_option maxHeartbeats 4000000 in
theorem lwPicks11 (v : Lv.Ver) (h : Lv.Okv v) : CFn Try.prog 3 [TAgg (Lv.cVer v)] (Is (.bool true)) := by
  have c0 := lvHeavy v.files (lv_okf h)
  have c5 := rl11Is v
  have c8 := lvKnown
  cases hb : lvHeavyB v.files with
  | true =>
    rw [hb] at c0
    refine CallsC.of Try.call3 Try.func3 rfl Try.ntmps3 rfl fun w0 G0 S0 hs ho => ?_
    exact run trivial
  | false =>
  rw [hb] at c0
  cases hN : Lv.isV v with
  | false =>
    rw [hN] at c5
    refine CallsC.of Try.call3 Try.func3 rfl Try.ntmps3 rfl fun w0 G0 S0 hs ho => ?_
    exact run trivial
  | true =>
  rw [hN] at c5
  have c1 := lvPick v
  have hpl := Lv.pick_len v
  rw [pick_1 hN] at c1 hpl
  cases hp : (Lv.pickL v.files).2 with
  | false =>
    rw [hp, Lv.pick_false hp] at c1
    refine CallsC.of Try.call3 Try.func3 rfl Try.ntmps3 rfl fun w0 G0 S0 hs ho => ?_
    refine run ?_
    intro _ _
    simp
  | true =>
    obtain ⟨n, z, hz⟩ := Lv.pick_true hp
    rw [hp] at c1
    have hV := Lv.isV_head hN
    have e := hz.zero.2
    subst e
    have hp0 := hz.plen
    have hlev := fun f hf => hz.levels (f := f) hf
    have hov := fun f hf => hz.over (f := f) hf
    have hsp := hz.span
    have hn : 0 ≤ ((Lv.pickL v.files).1.getD 0 default).level ∧ ((Lv.pickL v.files).1.getD 0 default).level ≤ 4 := by
      rw [hz.zero.1]
      exact (Lv.oneF_of (Lv.isV_one hN (hz.sub _ (Lv.mem_at hz.pos)))).2.1
    have c2 := rl11Over v
    clear h hz
    generalize (Lv.pickL v.files).1 = p at *
    refine CallsC.of Try.call3 Try.func3 rfl Try.ntmps3 rfl fun w0 G0 S0 hs ho => ?_
    refine run ?_
    intro _ _
    refine HT.loopX (σ := Nat × (List UInt8 × List UInt8)) [1, 3, 5] (fun t => [(6, Is (str t.2.1)), (7, Is (str t.2.2)), (8, okI .i64 (t.1 : Int))]) (fun t => []) (fun t => t.1 ≤ p.length ∧ t.2 = (p.take t.1).foldl (Lv.spanN (p.getD 0 default).level) (Lv.span0 p)) (fun t => p.length - t.1) (0, Lv.span0 p) ⟨Nat.zero_le _, rfl⟩ (run trivial) (run ?_) ?_
    · exact ⟨rfl, rfl⟩
    rintro ⟨i, s⟩ ⟨hi, hs⟩
    dsimp only at hi hs ⊢
    by_cases hlt : i < p.length
    · have h1 := hlev _ (Lv.mem_at hlt)
      have h2 : Lv.spanN (p.getD 0 default).level s (p.getD i default) = (p.take (i + 1)).foldl (Lv.spanN (p.getD 0 default).level) (Lv.span0 p) := by rw [hs]; exact spanN_step hlt
      refine run ?_
      refine ⟨fun _ h3 _ => ?_, fun _ h3 _ => ?_⟩
      · refine HX.roundX (i + 1, Lv.spanN (p.getD 0 default).level s (p.getD i default)) ⟨⟨by dsimp only; omega, by dsimp only; exact h2⟩, by dsimp only; omega⟩ rfl (run trivial) (by rw [spanN_eq h3]; exact run trivial)
      · refine HX.roundX (i + 1, Lv.spanN (p.getD 0 default).level s (p.getD i default)) ⟨⟨by dsimp only; omega, by dsimp only; exact h2⟩, by dsimp only; omega⟩ rfl (run trivial) (by rw [spanN_ne h3]; exact run trivial)
    · rw [Lv.foldl_full _ _ hlt, hsp] at hs
      subst hs
      have hol := Lv.over_len v.files ((p.getD 0 default).level + 1) (Lv.span z).1 (Lv.span z).2
      refine run ?_
      intro _
      generalize Lv.overL v.files ((p.getD 0 default).level + 1) (Lv.span z).1 (Lv.span z).2 = o at *
      refine HT.loopX (σ := Nat) [3, 9] (fun k => [(10, okI .i64 (k : Int))]) (fun t => []) (fun k => k ≤ o.length) (fun k => o.length - k) 0 (Nat.zero_le _) (run trivial) (run trivial) ?_
      intro k hk
      by_cases hkt : k < o.length
      · have h3 := hov _ (Lv.mem_at hkt)
        refine run ?_
        intro _
        refine HT.loopX (σ := Nat × Bool) [2, 3, 9, 10] (fun t => [(11, Is (.bool t.2)), (12, okI .i64 (t.1 : Int))]) (fun t => []) (fun t => t.1 ≤ p.length ∧ t.2 = seenP p t.1 (o.getD k default)) (fun t => p.length - t.1) (0, false) ⟨Nat.zero_le _, by unfold seenP; rfl⟩ (run trivial) (run trivial) ?_
        rintro ⟨m, b⟩ ⟨hm, hq1⟩
        dsimp only at hm hq1 ⊢
        by_cases hmt : m < p.length
        · have h4 := seenP_succ hmt (o.getD k default)
          refine run ?_
          rw [file_allB]
          intro _
          exact HX.roundX (m + 1, b || decide (p.getD m default = o.getD k default)) ⟨⟨by dsimp only; omega, by dsimp only; rw [h4, hq1]⟩, by dsimp only; omega⟩ rfl (run trivial) (run trivial)
        · have h4 := seenP_all hmt h3
          rw [← hq1] at h4
          subst h4
          refine run ?_
          intro _ _
          exact HX.roundX (k + 1) ⟨by omega, by omega⟩ rfl (run trivial) (run trivial)
      · exact run trivial
theorem lv_wf {n : Int} (h : (Lit.int .i64 n).wf = true) : Lv.okK n := wf_i64 h
theorem opnFile : Opn Try.prog 31 Lv.cFile Lv.Okf :=
  (Opn.struct Try.underlying31 (by kernel_rfl) (OpnF.cons rfl (Opn.int Try.underlying3 (by kernel_rfl)) (OpnF.cons rfl (Opn.int Try.underlying3 (by kernel_rfl)) (OpnF.cons rfl (Opn.int Try.underlying3 (by kernel_rfl)) (OpnF.cons rfl (Opn.str Try.underlying9 (by kernel_rfl)) (OpnF.cons rfl (Opn.str Try.underlying9 (by kernel_rfl)) (OpnF.nil _))))))).map
    (fun p => ⟨p.1, p.2.1, p.2.2.1, p.2.2.2.1, p.2.2.2.2.1⟩) (fun a => by kernel_rfl) (fun p => rfl) (fun p h => ⟨lv_wf h.1, lv_wf h.2.1, lv_wf h.2.2.1, h.2.2.2.1, h.2.2.2.2.1⟩)
theorem opnFiles : Opn Try.prog 22 (cL 5 Lv.cFile) (fun l => l.length ≤ 140737488351232 ∧ ∀ f ∈ l, Lv.Okf f) := by
  have h := Opn.slice opnFile Try.underlying22 (by kernel_rfl) (by kernel_rfl)
  rw [show Try.prog.cellsOf 31 = 5 by kernel_rfl] at h
  have hb : Try.prog.bytesOf 31 = 56 := by kernel_rfl
  exact h.map id (fun l => by rw [show Try.prog.cellsOf 22 = 1 by kernel_rfl]; rfl) (fun _ => rfl) (fun l hl => ⟨by have := reach_le hl.1; rw [hb] at this; show l.length ≤ _; omega, hl.2⟩)
theorem opnVer : Opn Try.prog 24 Lv.cVer Lv.Okv :=
  (Opn.struct Try.underlying24 (by kernel_rfl) (OpnF.cons rfl (Opn.int Try.underlying3 (by kernel_rfl)) (OpnF.cons rfl opnFiles (OpnF.nil _)))).map
    (fun p => (⟨p.1, p.2.1⟩ : Lv.Ver)) (fun a => by kernel_rfl) (fun p => rfl) (fun p h => show Lv.Okv ⟨p.1, p.2.1⟩ from h.2.1)
theorem opnBytes11 : Opn Try.prog 35 (cL 1 cB) (fun l => l.length ≤ 140737488351232) := by
  have h := Opn.slice (Opn.byte Try.underlying5 (by kernel_rfl)) Try.underlying35 (by kernel_rfl) (by kernel_rfl)
  rw [show Try.prog.cellsOf 5 = 1 by kernel_rfl] at h
  have hb : Try.prog.bytesOf 5 = 1 := by kernel_rfl
  exact h.map id (fun l => by rw [show Try.prog.cellsOf 35 = 1 by kernel_rfl]; rfl) (fun _ => rfl) (fun l hl => by have := reach_le hl.1; rw [hb] at this; show l.length ≤ _; omega)
end Go.Proofs.Ytohhhaeemephnaa
