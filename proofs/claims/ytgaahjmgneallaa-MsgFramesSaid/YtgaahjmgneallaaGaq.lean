/-
  How many bytes the first message has: the plain function, and the contracts of the program's and the document's Frame.
  The contracts of msg's small functions, and of all that the encoding of an unbind reaches.
  The contracts of what the encoding of an unbind reaches, at that request; and of MsgFrames.
-/
import Derived.Test.YtgaahjmgneallaaRows
import Derived.Test.YtgaahjmgneallaaGac
import Derived.Test.YtgaahjmgneallaaGao
import Derived.Test.YtgaahjmgneallaaGag
import Derived.Test.YtgaahjmgneallaaGap
set_option linter.unusedSimpArgs false
set_option linter.unusedVariables false
set_option linter.unusedVariables false
namespace Go.Ms
open Go.Vk
def frEnd (b : List UInt8) (at' n : Int) : Int × Int := if 65536 < at' + n then (0, 5) else if (b.length : Int) < at' + n then (0, 0) else (at' + n, 0)
def frLong (b : List UInt8) (k : Nat) : Int := Ber.be 0 ((b.take (2 + k)).drop 2)
def frameB (b : List UInt8) : Int × Int :=
  if b.length < 1 then (0, 0)
  else if (b.getD 0 0).toNat ≠ 48 then (0, 3)
  else if b.length < 2 then (0, 0)
  else if (b.getD 1 0).toNat < 128 then frEnd b 2 ((b.getD 1 0).toNat : Int)
  else if (b.getD 1 0).toNat = 128 ∨ 132 < (b.getD 1 0).toNat then (0, 3)
  else if b.length < 2 + ((b.getD 1 0).toNat - 128) then (0, 0)
  else frEnd b (2 + (((b.getD 1 0).toNat - 128 : Nat) : Int)) (frLong b ((b.getD 1 0).toNat - 128))
theorem frame_0 {b : List UInt8} (h : b.length < 1) : frameB b = (0, 0) := if_pos h
theorem frame_1 {b : List UInt8} (h : ¬ b.length < 1) (h1 : (b.getD 0 0).toNat ≠ 48) : frameB b = (0, 3) := by
  unfold frameB; rw [if_neg h, if_pos h1]
theorem frame_2 {b : List UInt8} (h : ¬ b.length < 1) (h1 : (b.getD 0 0).toNat = 48) (h2 : b.length < 2) : frameB b = (0, 0) := by
  unfold frameB; rw [if_neg h, if_neg (by omega), if_pos h2]
theorem frame_3 {b : List UInt8} (h1 : (b.getD 0 0).toNat = 48) (h2 : ¬ b.length < 2) (h3 : (b.getD 1 0).toNat < 128) : frameB b = frEnd b 2 ((b.getD 1 0).toNat : Int) := by
  unfold frameB; rw [if_neg (by omega), if_neg (by omega), if_neg h2, if_pos h3]
theorem frame_4 {b : List UInt8} (h1 : (b.getD 0 0).toNat = 48) (h2 : ¬ b.length < 2) (h3 : ¬ (b.getD 1 0).toNat < 128) (h4 : (b.getD 1 0).toNat = 128 ∨ 132 < (b.getD 1 0).toNat) : frameB b = (0, 3) := by
  unfold frameB; rw [if_neg (by omega), if_neg (by omega), if_neg h2, if_neg h3, if_pos h4]
theorem frame_5 {b : List UInt8} (h1 : (b.getD 0 0).toNat = 48) (h2 : ¬ b.length < 2) (h3 : ¬ (b.getD 1 0).toNat < 128) (h4 : ¬ ((b.getD 1 0).toNat = 128 ∨ 132 < (b.getD 1 0).toNat)) (h5 : b.length < 2 + ((b.getD 1 0).toNat - 128)) : frameB b = (0, 0) := by
  unfold frameB; rw [if_neg (by omega), if_neg (by omega), if_neg h2, if_neg h3, if_neg h4, if_pos h5]
theorem frame_6 {b : List UInt8} (h1 : (b.getD 0 0).toNat = 48) (h2 : ¬ b.length < 2) (h3 : ¬ (b.getD 1 0).toNat < 128) (h4 : ¬ ((b.getD 1 0).toNat = 128 ∨ 132 < (b.getD 1 0).toNat)) (h5 : ¬ b.length < 2 + ((b.getD 1 0).toNat - 128)) : frameB b = frEnd b (2 + (((b.getD 1 0).toNat - 128 : Nat) : Int)) (frLong b ((b.getD 1 0).toNat - 128)) := by
  unfold frameB; rw [if_neg (by omega), if_neg (by omega), if_neg h2, if_neg h3, if_neg h4, if_neg h5]
theorem frEnd_5 {b : List UInt8} {a n : Int} (h : 65536 < a + n) : frEnd b a n = (0, 5) := if_pos h
theorem frEnd_0 {b : List UInt8} {a n : Int} (h : ¬ 65536 < a + n) (h1 : (b.length : Int) < a + n) : frEnd b a n = (0, 0) := by unfold frEnd; rw [if_neg h, if_pos h1]
theorem frEnd_1 {b : List UInt8} {a n : Int} (h : ¬ 65536 < a + n) (h1 : ¬ (b.length : Int) < a + n) : frEnd b a n = (a + n, 0) := by unfold frEnd; rw [if_neg h, if_neg h1]
theorem frLong_bd (b : List UInt8) {k : Nat} (h : k ≤ 4) : 0 ≤ frLong b k ∧ frLong b k ≤ 4294967295 := Ber.be_small _ (by simp; omega)
theorem frLong_zero (b : List UInt8) : frLong b 0 = 0 := by
  unfold frLong
  rw [List.drop_of_length_le (by simp; omega)]; rfl
theorem frLong_succ {b : List UInt8} {k : Nat} (h : 2 + k < b.length) : frLong b (k + 1) = frLong b k * 256 + ((b.getD (2 + k) 0).toNat : Int) := by
  unfold frLong
  have h1 := Ber.be_snoc 0 (b.drop 2) k (by simp; omega)
  have e : ∀ j, (b.take (2 + j)).drop 2 = (b.drop 2).take j := fun j => by rw [List.drop_take, Nat.add_sub_cancel_left]
  rw [e, e, h1]
  congr 2
  simp [List.getD_eq_getElem?_getD]
theorem frameB_le (b : List UInt8) : 0 ≤ (frameB b).1 ∧ (frameB b).1 ≤ (b.length : Int) := by
  have hE : ∀ a n : Int, 0 ≤ a → 0 ≤ n → 0 ≤ (frEnd b a n).1 ∧ (frEnd b a n).1 ≤ (b.length : Int) := by
    intro a n ha hn
    unfold frEnd
    split
    · dsimp only; omega
    split <;> dsimp only <;> omega
  unfold frameB
  split
  · dsimp only; omega
  split
  · dsimp only; omega
  split
  · dsimp only; omega
  split
  · exact hE _ _ (by omega) (by omega)
  split
  · dsimp only; omega
  split
  · dsimp only; omega
  · rename_i h _
    exact hE _ _ (by omega) (frLong_bd b (by omega)).1
end Go.Ms
set_option maxRecDepth 8000
set_option linter.unusedVariables false
namespace Go.Proofs.Ytgaahjmgneallaa
open Go.Vk
attribute [local irreducible] HT HX RegS RegA RegM OpP OpC AltT
attribute [local irreducible] Ms.frLong Ms.frEnd
set_option maxHeartbeats 4000000 in
theorem msFrame (b : List UInt8) (hb : b.length ≤ 140737488355328) : CFn Try.prog 14 [TBytes b] (TTup [okI .i64 (Ms.frameB b).1, okI .i64 (Ms.frameB b).2]) := by
  have hx := (b.getD 1 0).toNat_lt
  by_cases h0 : b.length < 1
  · rw [Ms.frame_0 h0]
    refine CallsC.of Try.call14 Try.func14 rfl Try.ntmps14 rfl fun w0 G0 S0 hs ho => ?_
    exact run trivial
  by_cases h1 : (b.getD 0 0).toNat ≠ 48
  · rw [Ms.frame_1 h0 h1]
    refine CallsC.of Try.call14 Try.func14 rfl Try.ntmps14 rfl fun w0 G0 S0 hs ho => ?_
    exact run trivial
  have h1 : (b.getD 0 0).toNat = 48 := Decidable.not_not.1 h1
  by_cases h2 : b.length < 2
  · rw [Ms.frame_2 h0 h1 h2]
    refine CallsC.of Try.call14 Try.func14 rfl Try.ntmps14 rfl fun w0 G0 S0 hs ho => ?_
    exact run trivial
  by_cases h3 : (b.getD 1 0).toNat < 128
  · rw [Ms.frame_3 h1 h2 h3]
    by_cases h7 : 65536 < (2 : Int) + ((b.getD 1 0).toNat : Int)
    · omega
    by_cases h8 : (b.length : Int) < 2 + ((b.getD 1 0).toNat : Int)
    · rw [Ms.frEnd_0 h7 h8]
      have h3' : ¬ ¬ (b.getD (nat_lit 1) 0).toNat < 128 := fun h => h h3
      have h8' : (b.length : Int) < 2 + ((b.getD (nat_lit 1) 0).toNat : Int) := h8
      refine CallsC.of Try.call14 Try.func14 rfl Try.ntmps14 rfl fun w0 G0 S0 hs ho => ?_
      exact run trivial
    · rw [Ms.frEnd_1 h7 h8]
      have h3' : ¬ ¬ (b.getD (nat_lit 1) 0).toNat < 128 := fun h => h h3
      have h8' : ¬ (b.length : Int) < 2 + ((b.getD (nat_lit 1) 0).toNat : Int) := h8
      refine CallsC.of Try.call14 Try.func14 rfl Try.ntmps14 rfl fun w0 G0 S0 hs ho => ?_
      exact run trivial
  have h3' : ¬ (b.getD (nat_lit 1) 0).toNat < 128 := h3
  have hx' : (b.getD (nat_lit 1) 0).toNat < 256 := hx
  by_cases h4 : (b.getD 1 0).toNat = 128 ∨ 132 < (b.getD 1 0).toNat
  · rw [Ms.frame_4 h1 h2 h3 h4]
    have h4' : (b.getD (nat_lit 1) 0).toNat = 128 ∨ 132 < (b.getD (nat_lit 1) 0).toNat := h4
    refine CallsC.of Try.call14 Try.func14 rfl Try.ntmps14 rfl fun w0 G0 S0 hs ho => ?_
    exact run trivial
  have h4' : ¬ ((b.getD (nat_lit 1) 0).toNat = 128 ∨ 132 < (b.getD (nat_lit 1) 0).toNat) := h4
  by_cases h5 : b.length < 2 + ((b.getD 1 0).toNat - 128)
  · rw [Ms.frame_5 h1 h2 h3 h4 h5]
    have h5' : b.length < 2 + ((b.getD (nat_lit 1) 0).toNat - 128) := h5
    refine CallsC.of Try.call14 Try.func14 rfl Try.ntmps14 rfl fun w0 G0 S0 hs ho => ?_
    exact run trivial
  have h5' : ¬ b.length < 2 + ((b.getD (nat_lit 1) 0).toNat - 128) := h5
  rw [Ms.frame_6 h1 h2 h3 h4 h5]
  obtain ⟨k, hk⟩ : ∃ k : Nat, k = (b.getD 1 0).toNat - 128 := ⟨_, rfl⟩
  have hk' : k = (b.getD (nat_lit 1) 0).toNat - 128 := hk
  rw [← hk]
  have ek : ((b.getD (nat_lit 1) 0).toNat : Int) - 128 = (k : Int) := by omega
  have hk4 : 1 ≤ k ∧ k ≤ 4 ∧ 2 + k ≤ b.length := by omega
  refine CallsC.of Try.call14 Try.func14 rfl Try.ntmps14 rfl fun w0 G0 S0 hs ho => ?_
  refine run ?_
  intros
  have es : ((b.take (2 + (((b.getD (nat_lit 1) 0).toNat : Int) - 128)).toNat).drop (Int.toNat 2)).length = k := by
    rw [ek]; simp; omega
  refine HT.loopX (σ := Nat) [0, 2, 3, 4, 45, 46] (fun i => [(5, okI .i64 (Ms.frLong b i)), (47, okI .i64 (i : Int))]) (fun i => []) (fun i => i ≤ k) (fun i => k - i) 0 (Nat.zero_le _) (run trivial) (by refine run ?_; exact (Ms.frLong_zero b).symm) ?_
  intro i hi
  have hb1 := Ms.frLong_bd b (k := i) (by omega)
  by_cases hlt : i < k
  · have hz := Ms.frLong_succ (b := b) (k := i) (by omega)
    have hge : ((b.take (2 + (((b.getD (nat_lit 1) 0).toNat : Int) - 128)).toNat).drop (Int.toNat 2)).getD i 0 = b.getD (2 + i) 0 := by
      rw [ek, show (2 + (k : Int)).toNat = 2 + k by omega]
      show ((b.take (2 + k)).drop 2).getD i 0 = _
      rw [List.drop_take, Nat.add_sub_cancel_left, List.getD_eq_getElem?_getD, List.getD_eq_getElem?_getD, List.getElem?_take, if_pos hlt, List.getElem?_drop]
    refine run ?_
    intro _
    exact HX.roundX (i + 1) ⟨by omega, by omega⟩ rfl (run trivial) (by refine run ?_; rw [hz, hge])
  · have he : i = k := by omega
    subst he
    by_cases h7 : 65536 < (2 + (i : Int)) + Ms.frLong b i
    · rw [Ms.frEnd_5 h7]
      exact run trivial
    by_cases h8 : (b.length : Int) < (2 + (i : Int)) + Ms.frLong b i
    · rw [Ms.frEnd_0 h7 h8]
      exact run trivial
    · rw [Ms.frEnd_1 h7 h8]
      exact run trivial
set_option maxHeartbeats 4000000 in
theorem rfFrame25 (b : List UInt8) (hb : b.length ≤ 140737488355328) : CFn Try.prog 15 [TBytes b] (TTup [okI .i64 (Ms.frameB b).1, okI .i64 (Ms.frameB b).2]) := by
  have hx := (b.getD 1 0).toNat_lt
  by_cases h0 : b.length < 1
  · rw [Ms.frame_0 h0]
    refine CallsC.of Try.call15 Try.func15 rfl Try.ntmps15 rfl fun w0 G0 S0 hs ho => ?_
    exact run trivial
  by_cases h1 : (b.getD 0 0).toNat ≠ 48
  · rw [Ms.frame_1 h0 h1]
    have h1' : (b.getD (nat_lit 0) 0).toNat ≠ 48 := h1
    refine CallsC.of Try.call15 Try.func15 rfl Try.ntmps15 rfl fun w0 G0 S0 hs ho => ?_
    exact run trivial
  have h1 : (b.getD 0 0).toNat = 48 := Decidable.not_not.1 h1
  have h1' : (b.getD (nat_lit 0) 0).toNat = 48 := h1
  by_cases h2 : b.length < 2
  · rw [Ms.frame_2 h0 h1 h2]
    refine CallsC.of Try.call15 Try.func15 rfl Try.ntmps15 rfl fun w0 G0 S0 hs ho => ?_
    exact run trivial
  by_cases h3 : (b.getD 1 0).toNat < 128
  · rw [Ms.frame_3 h1 h2 h3]
    by_cases h7 : 65536 < (2 : Int) + ((b.getD 1 0).toNat : Int)
    · omega
    by_cases h8 : (b.length : Int) < 2 + ((b.getD 1 0).toNat : Int)
    · rw [Ms.frEnd_0 h7 h8]
      have h3' : ¬ ¬ (b.getD (nat_lit 1) 0).toNat < 128 := fun h => h h3
      have h8' : (b.length : Int) < 2 + ((b.getD (nat_lit 1) 0).toNat : Int) := h8
      refine CallsC.of Try.call15 Try.func15 rfl Try.ntmps15 rfl fun w0 G0 S0 hs ho => ?_
      exact run trivial
    · rw [Ms.frEnd_1 h7 h8]
      have h3' : ¬ ¬ (b.getD (nat_lit 1) 0).toNat < 128 := fun h => h h3
      have h8' : ¬ (b.length : Int) < 2 + ((b.getD (nat_lit 1) 0).toNat : Int) := h8
      refine CallsC.of Try.call15 Try.func15 rfl Try.ntmps15 rfl fun w0 G0 S0 hs ho => ?_
      exact run trivial
  have h3' : ¬ (b.getD (nat_lit 1) 0).toNat < 128 := h3
  have hx' : (b.getD (nat_lit 1) 0).toNat < 256 := hx
  by_cases h4 : (b.getD 1 0).toNat = 128 ∨ 132 < (b.getD 1 0).toNat
  · rw [Ms.frame_4 h1 h2 h3 h4]
    have h4' : (b.getD (nat_lit 1) 0).toNat = 128 ∨ 132 < (b.getD (nat_lit 1) 0).toNat := h4
    refine CallsC.of Try.call15 Try.func15 rfl Try.ntmps15 rfl fun w0 G0 S0 hs ho => ?_
    exact run trivial
  have h4' : ¬ ((b.getD (nat_lit 1) 0).toNat = 128 ∨ 132 < (b.getD (nat_lit 1) 0).toNat) := h4
  by_cases h5 : b.length < 2 + ((b.getD 1 0).toNat - 128)
  · rw [Ms.frame_5 h1 h2 h3 h4 h5]
    have h5' : b.length < 2 + ((b.getD (nat_lit 1) 0).toNat - 128) := h5
    refine CallsC.of Try.call15 Try.func15 rfl Try.ntmps15 rfl fun w0 G0 S0 hs ho => ?_
    exact run trivial
  have h5' : ¬ b.length < 2 + ((b.getD (nat_lit 1) 0).toNat - 128) := h5
  rw [Ms.frame_6 h1 h2 h3 h4 h5]
  obtain ⟨k, hk⟩ : ∃ k : Nat, k = (b.getD 1 0).toNat - 128 := ⟨_, rfl⟩
  have hk' : k = (b.getD (nat_lit 1) 0).toNat - 128 := hk
  rw [← hk]
  have ek : ((b.getD (nat_lit 1) 0).toNat : Int) - 128 = (k : Int) := by omega
  have hk4 : 1 ≤ k ∧ k ≤ 4 ∧ 2 + k ≤ b.length := by omega
  refine CallsC.of Try.call15 Try.func15 rfl Try.ntmps15 rfl fun w0 G0 S0 hs ho => ?_
  refine run ?_
  intros
  refine HT.loopX (σ := Nat) [0, 2, 3, 5, 6] (fun i => [(4, okI .i64 (Ms.frLong b i)), (7, okI .i64 (i : Int))]) (fun i => []) (fun i => i ≤ k) (fun i => k - i) 0 (Nat.zero_le _) (run trivial) (by refine run ?_; exact (Ms.frLong_zero b).symm) ?_
  intro i hi
  have hb1 := Ms.frLong_bd b (k := i) (by omega)
  by_cases hlt : i < k
  · have hz := Ms.frLong_succ (b := b) (k := i) (by omega)
    have hge : b.getD (2 + (i : Int)).toNat 0 = b.getD (2 + i) 0 := by rw [show (2 + (i : Int)).toNat = 2 + i by omega]
    refine run ?_
    intro _
    exact HX.roundX (i + 1) ⟨by omega, by omega⟩ rfl (run trivial) (run trivial)
  · have he : i = k := by omega
    subst he
    by_cases h7 : 65536 < (2 + (i : Int)) + Ms.frLong b i
    · rw [Ms.frEnd_5 h7]
      exact run trivial
    by_cases h8 : (b.length : Int) < (2 + (i : Int)) + Ms.frLong b i
    · rw [Ms.frEnd_0 h7 h8]
      exact run trivial
    · rw [Ms.frEnd_1 h7 h8]
      exact run trivial
end Go.Proofs.Ytgaahjmgneallaa
set_option linter.unusedVariables false
namespace Go.Ms
open Go.Vk
abbrev cZ (n : Int) : List Ty := [okI .i64 n]
structure Mod where
  kind : Int
  typ : List UInt8
  vals : List (List UInt8)
deriving DecidableEq
instance : Inhabited Mod := ⟨⟨0, [], []⟩⟩
def cMod (m : Mod) : List Ty := [okI .i64 m.kind, Is (str m.typ), TSl 1 En.cS m.vals]
def isIntZ (n : Int) (l : List Int) : Bool := l.any (fun k => decide (n = k))
/-- The cells of a request that names nothing but its number and kind. -/
abbrev zReq (n k : Int) : List Ty := [okI .i64 n, okI .i64 k, Is (str []), Is (str []), okI .i64 0, okI .i64 0, okI .i64 0, Is (str []), Is (str []), Is (.slice none 0 0), Is (.slice none 0 0), Is (.slice none 0 0), Is (.slice none 0 0), Is (.slice none 0 0), Is (str []), Is (.bool false), Is (.bool false), Is (str []), Is (str []), Is (str []), okI .i64 0]
end Go.Ms
set_option maxRecDepth 8000
set_option linter.unusedVariables false
namespace Go.Proofs.Ytgaahjmgneallaa
open Go.Vk
attribute [local irreducible] HT HX RegS RegA RegM OpP OpC AltT
attribute [local irreducible] Ber.tagB Ber.lenB Ber.intB
theorem ixInt (l : List Int) (n : Int) (hl : l.length ≤ 1152921504606846976) : CFn Try.prog 78 [TSl 1 Ms.cZ l, okI .i64 n] (okI .i64 (En.ixOf (fun k => decide (n = k)) l)) := by
  refine CallsC.of Try.call78 Try.func78 rfl Try.ntmps78 rfl fun w0 G0 S0 hs ho => ?_
  refine run ?_
  refine HT.loopX (σ := Nat) [0, 1, 7] (fun i => [(8, okI .i64 (i : Int))]) (fun i => []) (fun i => i ≤ l.length ∧ (l.take i).any (fun k => decide (n = k)) = false) (fun i => l.length - i) 0 ⟨by omega, by simp⟩ (run trivial) (run trivial) ?_
  rintro i ⟨hi, hp⟩
  refine run ?_
  refine ⟨fun h1 h2 => ?_, fun h1 h2 => ?_, fun h1 => ?_⟩
  · exact (En.ixOf_at (by omega) hp (decide_eq_true h2)).symm
  · exact HX.roundX (i + 1) ⟨⟨by omega, En.any_snoc (by omega) hp (decide_eq_false h2)⟩, by omega⟩ rfl (run trivial) (run trivial)
  · exact (En.ixOf_none (by rwa [List.take_of_length_le (by omega)] at hp)).symm
theorem anyInt (l : List Int) (n : Int) (hl : l.length ≤ 1152921504606846976) : CFn Try.prog 62 [TSl 1 Ms.cZ l, okI .i64 n] (Is (.bool (Ms.isIntZ n l))) := by
  have c1 := ixInt l n hl
  refine CallsC.of Try.call62 Try.func62 rfl Try.ntmps62 rfl fun w0 G0 S0 hs ho => ?_
  refine run ?_
  exact En.ixOf_nonneg
theorem msIsKind (n : Int) : CFn Try.prog 37 [okI .i64 n] (Is (.bool (Ms.isIntZ n [0, 2, 3, 6, 8, 10, 12, 14, 16]))) := by
  have c1 := anyInt [0, 2, 3, 6, 8, 10, 12, 14, 16] n (by decide)
  refine CallsC.of Try.call37 Try.func37 rfl Try.ntmps37 rfl fun w0 G0 S0 hs ho => ?_
  exact run trivial
theorem msIsNum (n m : Int) : CFn Try.prog 38 [okI .i64 n, okI .i64 m] (Is (.bool (decide (m ≤ n) && decide (n ≤ 2147483647)))) := by
  refine CallsC.of Try.call38 Try.func38 rfl Try.ntmps38 rfl fun w0 G0 S0 hs ho => ?_
  exact run trivial
theorem msFewS (l : List (List UInt8)) : CFn Try.prog 41 [TSl 1 En.cS l] (Is (.bool (decide ((l.length : Int) ≤ 64)))) := by
  refine CallsC.of Try.call41 Try.func41 rfl Try.ntmps41 rfl fun w0 G0 S0 hs ho => ?_
  exact run trivial
theorem msFewM (l : List Ms.Mod) : CFn Try.prog 42 [TSl 3 Ms.cMod l] (Is (.bool (decide ((l.length : Int) ≤ 64)))) := by
  refine CallsC.of Try.call42 Try.func42 rfl Try.ntmps42 rfl fun w0 G0 S0 hs ho => ?_
  exact run trivial
theorem msFewA (l : List En.Attr) : CFn Try.prog 43 [TSl 2 En.cAttr l] (Is (.bool (decide ((l.length : Int) ≤ 64)))) := by
  refine CallsC.of Try.call43 Try.func43 rfl Try.ntmps43 rfl fun w0 G0 S0 hs ho => ?_
  exact run trivial
theorem msText (s : List UInt8) (hs : s.length ≤ 1000000) : CFn Try.prog 49 [Is (str s)] (TBytes (Ber.tagB 4 [s])) := by
  have c1 := (tagO 4 [s] (by rw [Ber.tot_one]; omega) (by simp)).justFn
  refine CallsC.of Try.call49 Try.func49 rfl Try.ntmps49 rfl fun w0 G0 S0 hs ho => ?_
  exact run trivial
theorem modEq {f : FuncId} {Cs : List Ty} (l m : List Ms.Mod) (hl : l.length ≤ 1152921504606846976) (cf : ∀ a ∈ l, ∀ b, CFn Try.prog f ([TAgg (Ms.cMod a), TAgg (Ms.cMod b)] ++ Cs) (Is (.bool (decide (a = b))))) : CFn Try.prog 31 [TSl 3 Ms.cMod l, TSl 3 Ms.cMod m, TFn f Cs] (Is (.bool (decide (l = m)))) := by
  refine CallsC.of Try.call31 Try.func31 rfl Try.ntmps31 rfl fun w0 G0 S0 hs ho => ?_
  refine run ?_
  refine ⟨?_, ?_⟩
  · intro h
    exact (decide_eq_false (fun e => h (by rw [e]))).symm
  intro hc
  refine HT.loopX (σ := Nat) [1, 2, 15, 16] (fun i => [(17, okI .i64 (i : Int))]) (fun _ => []) (fun i => i ≤ l.length ∧ l.take i = m.take i) (fun i => l.length - i) 0 ⟨Nat.zero_le _, rfl⟩ (run trivial) (run trivial) ?_
  rintro i ⟨hi, he⟩
  have hc' : l.length = m.length := by
    have : (l.length : Int) = (m.length : Int) := Decidable.not_not.1 hc
    omega
  have cf' := fun (hlt : i < l.length) => cf (l.getD i default) (En.getD_mem hlt) (m.getD i default)
  clear cf
  refine run ?_
  refine ⟨fun _ _ h1 h2 => ?_, fun _ _ h1 h2 => ?_, fun h1 => ?_⟩
  · exact (decide_eq_false (fun e => h2 (by rw [e]))).symm
  · exact HX.roundX (i + 1) ⟨⟨by omega, En.take_ext (by omega) hc' he h2⟩, by omega⟩ rfl (run trivial) (run trivial)
  · exact (decide_eq_true (En.take_all h1 hc' he)).symm
theorem attrEq {f : FuncId} {Cs : List Ty} (l m : List En.Attr) (hl : l.length ≤ 1152921504606846976) (cf : ∀ a ∈ l, ∀ b, CFn Try.prog f ([TAgg (En.cAttr a), TAgg (En.cAttr b)] ++ Cs) (Is (.bool (decide (a = b))))) : CFn Try.prog 29 [TSl 2 En.cAttr l, TSl 2 En.cAttr m, TFn f Cs] (Is (.bool (decide (l = m)))) := by
  refine CallsC.of Try.call29 Try.func29 rfl Try.ntmps29 rfl fun w0 G0 S0 hs ho => ?_
  refine run ?_
  refine ⟨?_, ?_⟩
  · intro h
    exact (decide_eq_false (fun e => h (by rw [e]))).symm
  intro hc
  refine HT.loopX (σ := Nat) [1, 2, 15, 16] (fun i => [(17, okI .i64 (i : Int))]) (fun _ => []) (fun i => i ≤ l.length ∧ l.take i = m.take i) (fun i => l.length - i) 0 ⟨Nat.zero_le _, rfl⟩ (run trivial) (run trivial) ?_
  rintro i ⟨hi, he⟩
  have hc' : l.length = m.length := by
    have : (l.length : Int) = (m.length : Int) := Decidable.not_not.1 hc
    omega
  have cf' := fun (hlt : i < l.length) => cf (l.getD i default) (En.getD_mem hlt) (m.getD i default)
  clear cf
  refine run ?_
  refine ⟨fun _ _ h1 h2 => ?_, fun _ _ h1 h2 => ?_, fun h1 => ?_⟩
  · exact (decide_eq_false (fun e => h2 (by rw [e]))).symm
  · exact HX.roundX (i + 1) ⟨⟨by omega, En.take_ext (by omega) hc' he h2⟩, by omega⟩ rfl (run trivial) (run trivial)
  · exact (decide_eq_true (En.take_all h1 hc' he)).symm
theorem ixMod {f : FuncId} {Cs : List Ty} (l : List Ms.Mod) (p : Ms.Mod → Bool) (hl : l.length ≤ 1152921504606846976) (cf : ∀ a ∈ l, CFn Try.prog f ([TAgg (Ms.cMod a)] ++ Cs) (Is (.bool (p a)))) : CFn Try.prog 64 [TSl 3 Ms.cMod l, TFn f Cs] (okI .i64 (En.ixOf p l)) := by
  refine CallsC.of Try.call64 Try.func64 rfl Try.ntmps64 rfl fun w0 G0 S0 hs ho => ?_
  refine run ?_
  refine HT.loopX (σ := Nat) [0, 1, 7] (fun i => [(8, okI .i64 (i : Int))]) (fun i => []) (fun i => i ≤ l.length ∧ (l.take i).any p = false) (fun i => l.length - i) 0 ⟨by omega, by simp⟩ (run trivial) (run trivial) ?_
  rintro i ⟨hi, hp⟩
  have cf' := fun (hlt : i < l.length) => cf (l.getD i default) (En.getD_mem hlt)
  clear cf
  refine run ?_
  refine ⟨fun h1 h2 => ?_, fun h1 h2 => ?_, fun h1 => ?_⟩
  · exact (En.ixOf_at (by omega) hp h2).symm
  · exact HX.roundX (i + 1) ⟨⟨by omega, En.any_snoc (by omega) hp h2⟩, by omega⟩ rfl (run trivial) (run trivial)
  · exact (En.ixOf_none (by rwa [List.take_of_length_le (by omega)] at hp)).symm
theorem anyMod {f : FuncId} {Cs : List Ty} (l : List Ms.Mod) (p : Ms.Mod → Bool) (hl : l.length ≤ 1152921504606846976) (cf : ∀ a ∈ l, CFn Try.prog f ([TAgg (Ms.cMod a)] ++ Cs) (Is (.bool (p a)))) : CFn Try.prog 44 [TSl 3 Ms.cMod l, TFn f Cs] (Is (.bool (l.any p))) := by
  have c1 := ixMod l p hl cf
  refine CallsC.of Try.call44 Try.func44 rfl Try.ntmps44 rfl fun w0 G0 S0 hs ho => ?_
  refine run ?_
  exact En.ixOf_nonneg
end Go.Proofs.Ytgaahjmgneallaa
set_option linter.unusedVariables false
namespace Go.Ms
open Go.Vk
theorem zFil : TAgg (Fi.cF Fi.zeroF) = TAgg [okI .i64 0, Is (str []), Is (str []), TSl 1 Fi.cS [], TSl 5 Fi.cF []] := Fi.cF_open Fi.zeroF
end Go.Ms
set_option maxRecDepth 8000
set_option linter.unusedVariables false
namespace Go.Proofs.Ytgaahjmgneallaa
open Go.Vk
attribute [local irreducible] HT HX RegS RegA RegM OpP OpC AltT
attribute [local irreducible] Ber.tagB Ber.lenB Ber.intB
set_option maxHeartbeats 4000000 in
theorem msSame0 : CFn Try.prog 11 [TAgg (Ms.zReq 0 0), TAgg (Ms.zReq 0 0)] (Is (.bool true)) := by
  have c1 := fpSame 1 Fi.zeroF (by decide) (by decide) Fi.zeroF
  rw [decide_eq_true rfl, Ms.zFil] at c1
  have c2 := txtEq16 [] [] (by decide)
  rw [decide_eq_true rfl] at c2
  have c3 := modEq (f := 32) (Cs := []) [] [] (by decide) (fun a h => by cases h)
  rw [decide_eq_true rfl] at c3
  have c4 := attrEq (f := 30) (Cs := []) [] [] (by decide) (fun a h => by cases h)
  rw [decide_eq_true rfl] at c4
  refine CallsC.of Try.call11 Try.func11 rfl Try.ntmps11 rfl fun w0 G0 S0 hs ho => ?_
  refine run ?_
  exact ⟨fun h => by simp at h, fun _ h => by simp [allB] at h, fun _ _ => rfl⟩
set_option maxHeartbeats 4000000 in
theorem msUnnamed0 : CFn Try.prog 39 [TAgg (Ms.zReq 1 2)] (TAgg (Ms.zReq 0 0)) := by
  refine CallsC.of Try.call39 Try.func39 rfl Try.ntmps39 rfl fun w0 G0 S0 hs ho => ?_
  exact run trivial
set_option maxHeartbeats 4000000 in
theorem msSound0 : CFn Try.prog 18 [TAgg (Ms.zReq 1 2)] (Is (.bool true)) := by
  have c1 := msSame0
  have c2 := msUnnamed0
  have c3 : CFn Try.prog 37 [okI .i64 2] (Is (.bool true)) := msIsKind 2
  have c4 : CFn Try.prog 38 [okI .i64 1, okI .i64 1] (Is (.bool true)) := msIsNum 1 1
  have c5 : CFn Try.prog 38 [okI .i64 0, okI .i64 0] (Is (.bool true)) := msIsNum 0 0
  have c6 : CFn Try.prog 41 [TSl 1 En.cS []] (Is (.bool true)) := msFewS []
  have c7 : CFn Try.prog 42 [TSl 3 Ms.cMod []] (Is (.bool true)) := msFewM []
  have c8 : CFn Try.prog 43 [TSl 2 En.cAttr []] (Is (.bool true)) := msFewA []
  have c9 : CFn Try.prog 44 [TSl 3 Ms.cMod [], TFn 45 []] (Is (.bool false)) := anyMod [] (fun _ => true) (by decide) (fun a h => by cases h)
  have c10 : CFn Try.prog 46 [TSl 2 En.cAttr [], TFn 47 []] (Is (.bool false)) := anyAttr [] (fun _ => true) (by decide) (fun a h => by cases h)
  have su := Sure.mk' [9, 10, 11, 12, 15, 16, 17, 18, 19, 26, 27, 28, 31, 32, 33, 34, 37, 38, 39, 40, 47, 48, 49, 50, 56, 57, 58, 66, 67, 68, 69, 72, 73, 74, 75, 82, 83, 84, 85]
  refine CallsC.of Try.call18 Try.func18 rfl Try.ntmps18 rfl fun w0 G0 S0 hs ho => ?_
  refine run ?_
  exact ⟨fun _ _ _ h => by simp at h, fun _ _ _ _ _ => rfl⟩
set_option maxHeartbeats 4000000 in
theorem msOper0 : CFn Try.prog 21 [TAgg (Ms.zReq 1 2)] (TBytes (Ber.tagB 66 [])) := by
  have c1 := msText [] (by decide)
  have c2 := (tagO 66 [] (by decide) (by decide)).justFn
  refine CallsC.of Try.call21 Try.func21 rfl Try.ntmps21 rfl fun w0 G0 S0 hs ho => ?_
  exact run trivial
set_option maxHeartbeats 4000000 in
theorem msEncode0 : CFn Try.prog 7 [TAgg (Ms.zReq 1 2)] (TTup [TBytes [48, 5, 2, 1, 1, 66, 0], okI .i64 0]) := by
  have c1 := msSound0
  have c2 := msOper0
  have c3 := int 1 (by decide)
  have c4 := (tagO 2 [Ber.intB 1] (by decide +kernel) (by decide)).justFn
  have c5 := (tagO 48 [Ber.tagB 2 [Ber.intB 1], Ber.tagB 66 []] (by decide +kernel) (by decide)).justFn
  have e : Ber.tagB 48 [Ber.tagB 2 [Ber.intB 1], Ber.tagB 66 []] = [48, 5, 2, 1, 1, 66, 0] := by decide +kernel
  rw [e] at c5
  have c6 : CFn Try.prog 19 [okI .u8 48, TSlX 1 (fun ts : List Ty => ts) [[TBytes (Ber.tagB 2 [Ber.intB 1])], [TBytes (Ber.tagB 66 [])]]] (TBytes [48, 5, 2, 1, 1, 66, 0]) := CFn.sub c5 (by (repeat (first | exact TsSub.nil | apply TsSub.cons (by first | with_reducible exact Sub.refl _ | exact Sub.slxT rfl | exact Sub.slT rfl | exact Sub.slx rfl | exact Sub.nil _ _ | exact Sub.refl _) | fail)); done)
  have c7 : CFn Try.prog 19 [okI .u8 2, TSlX 1 (fun ts : List Ty => ts) [[TBytes (Ber.intB 1)]]] (TBytes (Ber.tagB 2 [Ber.intB 1])) := CFn.sub c4 (by (repeat (first | exact TsSub.nil | apply TsSub.cons (by first | with_reducible exact Sub.refl _ | exact Sub.slxT rfl | exact Sub.slT rfl | exact Sub.slx rfl | exact Sub.nil _ _ | exact Sub.refl _) | fail)); done)
  clear c4 c5
  refine CallsC.of Try.call7 Try.func7 rfl Try.ntmps7 rfl fun w0 G0 S0 hs ho => ?_
  refine run ?_
  exact ⟨fun _ h => absurd h (by decide), fun _ h => absurd h (by decide)⟩
theorem lwKnown25 : CFn Try.prog 13 [] (Is (.bool true)) := by
  have c1 := msEncode0
  refine CallsC.of Try.call13 Try.func13 rfl Try.ntmps13 rfl fun w0 G0 S0 hs ho => ?_
  exact run trivial
theorem lwFrames (b : List UInt8) (hb : b.length ≤ 140737488355328) : CFn Try.prog 4 [TBytes b] (Is (.bool true)) := by
  have c1 := msFrame b hb
  have c2 := rfFrame25 b hb
  have c3 := lwKnown25
  have hle := Ms.frameB_le b
  have su := Sure.mk' [24, 25, 26, 29, 30, 31, 32, 35]
  refine CallsC.of Try.call4 Try.func4 rfl Try.ntmps4 rfl fun w0 G0 S0 hs ho => ?_
  refine run ?_
  intro _
  rw [decide_eq_true rfl, decide_eq_true rfl, decide_eq_true hle.2]; rfl
theorem opnBytes : Opn Try.prog 33 (cL 1 cB) (fun l => l.length ≤ 140737488351232) := by
  have h := Opn.slice (Opn.byte Try.underlying5 (by kernel_rfl)) Try.underlying33 (by kernel_rfl) (by kernel_rfl)
  rw [show Try.prog.cellsOf 5 = 1 by kernel_rfl] at h
  have hb : Try.prog.bytesOf 5 = 1 := by kernel_rfl
  exact h.map id (fun l => by rw [show Try.prog.cellsOf 33 = 1 by kernel_rfl]; rfl) (fun _ => rfl) (fun l hl => by have := reach_le hl.1; rw [hb] at this; show l.length ≤ _; omega)
end Go.Proofs.Ytgaahjmgneallaa
