/-
  The laws BerCuts, BerBack, BerLong, for all arguments.
-/
import Derived.Test.YtmfhacngjbhldaaB4
import Derived.Test.YtmfhacngjbhldaaC0
import Derived.Test.YtmfhacngjbhldaaVz
set_option linter.unusedVariables false
namespace Go.Proofs.Ytmfhacngjbhldaa
open Go.Vk
attribute [local irreducible] HT HX RegS RegA RegM OpP OpC
theorem tagB_len1 (tag : UInt8) (body : List UInt8) : 2 ≤ (Ber.tagB tag [body]).length ∧ (Ber.tagB tag [body]).length ≤ body.length + 10 := by
  have h := Ber.lenB_len (body.length : Int)
  have h2 : 1 ≤ (Ber.lenB (body.length : Int)).length := by
    unfold Ber.lenB; split <;> simp
  rw [Ber.tagB_one]
  simp only [List.length_cons, List.length_append]
  omega
theorem nextAt {b : List UInt8} {r : Ber.NextR} (h : Ber.nextB b = r) (hl : b.length ≤ 140737488355328) : CFn Try.prog 18 [TBytes b] (TTup [okI .u8 (r.tag.toNat : Int), TBytes r.body, TBytes r.rest, okI .i64 r.e]) := by
  subst h; exact nextP b hl
theorem berCuts (tag : UInt8) (body : List UInt8) (cut : Int) : CFn Try.prog 7 [okI .u8 (tag.toNat : Int), TBytes body, okI .i64 cut] (Is (.bool true)) := by
  have c1 := fun (hl : body.length ≤ 600) => (tagO tag [body] (by rw [Ber.tot_one]; omega) (by simp)).justFn
  have c3 := known
  have hl := tagB_len1 tag body
  have m1 : 0 ≤ cut % 65536 % ((Ber.tagB tag [body]).length : Int) := Int.emod_nonneg _ (by omega)
  have m2 : cut % 65536 % ((Ber.tagB tag [body]).length : Int) < ((Ber.tagB tag [body]).length : Int) := Int.emod_lt_of_pos _ (by omega)
  have c2 := fun (h : ¬600 < (body.length : Int) ∧ ¬((tag &&& b8 31).toNat : Int) = 31) => nextAt (Ber.cuts tag h.2 body (by omega) (cut % 65536 % ((Ber.tagB tag [body]).length : Int)).toNat (by omega)) (by rw [List.length_take]; omega)
  refine CallsC.of Try.call7 Try.func7 rfl Try.ntmps7 rfl fun w0 G0 S0 hs ho => ?_
  exact run trivial
theorem rep_len (body : List UInt8) (n : Nat) (h : body.length ≤ 300) : (List.replicate n body).flatten.length ≤ n * 300 := by
  induction n with
  | zero => simp
  | succ n ih => rw [List.replicate_succ, List.flatten_cons, List.length_append]; omega
theorem rep_succ (body : List UInt8) (n : Nat) : (List.replicate (n + 1) body).flatten = (List.replicate n body).flatten ++ body := by
  rw [List.replicate_succ', List.flatten_append]; simp
theorem berBack (tag : UInt8) (body rest : List UInt8) (times : Int) : CFn Try.prog 6 [okI .u8 (tag.toNat : Int), TBytes body, TBytes rest, okI .i64 times] (Is (.bool true)) := by
  have c3 := known
  refine CallsC.of Try.call6 Try.func6 rfl Try.ntmps6 rfl fun w0 G0 S0 hs ho => ?_
  refine run ?_
  intro hc
  refine HT.loopX (σ := Nat × Value) [0, 1, 2, 3, 8] (fun s => [(9, TAnd (Is s.2) (TBytes (List.replicate s.1 body).flatten)), (10, okI .i64 (s.1 : Int))]) (fun s => [ownSl s.2 1 5]) (fun s => s.1 ≤ times.toNat + 1) (fun s => times.toNat + 1 - s.1) (0, .slice none 0 0) (Nat.zero_le _) (run trivial) (run ?_) ?_
  · rfl
  intro s hi
  obtain ⟨i, v⟩ := s
  dsimp only at hi ⊢
  have hr := rep_len body i (by omega)
  have c1 := tagO tag [(List.replicate i body).flatten] (by rw [Ber.tot_one]; omega) (by simp)
  have hl := tagB_len1 tag (List.replicate i body).flatten
  have c2 := nextAt (Ber.back tag hc.1.1.2 (List.replicate i body).flatten rest (by omega)) (by rw [List.length_append]; omega)
  refine run ?_
  intro v' _
  exact HX.roundX (i + 1, v') ⟨by dsimp only; omega, by dsimp only; omega⟩ rfl (run trivial) (run (rep_succ body i).symm)
theorem berLong (tag : UInt8) (body : List UInt8) (k : Int) : CFn Try.prog 8 [okI .u8 (tag.toNat : Int), TBytes body, okI .i64 k] (Is (.bool true)) := by
  have c3 := known
  have mu := Mut.mk' [33]
  refine CallsC.of Try.call8 Try.func8 rfl Try.ntmps8 rfl fun w0 G0 S0 hs ho => ?_
  refine run ?_
  intro v0 hc
  refine HT.loopX (σ := Nat × Value) [0, 1, 2, 6] (fun s => [(7, TAnd (Is s.2) (TBytes ([tag, b8 (128 + k)] ++ List.replicate s.1 0))), (8, okI .i64 ((s.1 : Int) + 1))]) (fun s => [ownSl s.2 1 5]) (fun s => s.1 + 1 ≤ k.toNat) (fun s => k.toNat - s.1) (0, v0) (by dsimp only; omega) (run trivial) (run ?_) ?_
  · simp
  intro s hi
  obtain ⟨i, v⟩ := s
  dsimp only at hi ⊢
  have c2 := fun (h : i + 1 = k.toNat) => nextAt (b := [tag, b8 (128 + k)] ++ List.replicate i 0 ++ [b8 (body.length : Int)] ++ body) (r := ⟨tag, body, [], 0⟩) (by have := Ber.long tag hc.1.1.2 body (by omega) (i + 1) (by omega); rwa [show ((i + 1 : Nat) : Int) = k by omega] at this) (by simp; omega)
  have hr : (List.replicate i (0 : UInt8)).length = i := List.length_replicate
  refine run ?_
  intro v' _
  refine HX.roundX (i + 1, v') ⟨by dsimp only; omega, by dsimp only; omega⟩ rfl (run trivial) (run ?_)
  rw [List.replicate_succ', ← List.append_assoc]
  rfl
end Go.Proofs.Ytmfhacngjbhldaa
