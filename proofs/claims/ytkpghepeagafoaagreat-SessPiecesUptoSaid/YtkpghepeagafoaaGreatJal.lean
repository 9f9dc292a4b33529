/-
  The contracts of ber's functions next, Next, length, Int, FromInt: what each computes, for every input; nothing that was there is changed.
  The contract of ber's Tag: what it computes, for every input of at most 2^46 bytes; its result is memory of its own; nothing that was there is changed.
  Plain laws of numbers as bytes: what intB gives is read back as it was, and in so few bytes as it may be. Nothing here speaks of a program; no conditions but those that stand.
  The laws' own word 'known' holds; BerShortest: for every number.
  What is read behind a tag and a length: plain facts. Nothing here speaks of a program; no conditions.
  The contracts of strings.IndexByte and of what it calls: for every input; nothing that was there is changed.
  The plain functions of dn: what its Go functions compute, on lists of bytes. Nothing here speaks of a program; no conditions.
  The contracts of dn's parser: what each function computes, for every text.
  The contracts of dn's parser, further on: blanks, kind, stroke, value, part.
  The contracts of dn's parser, further on: blanks, kind, stroke, value, part.
  The contract of dn's parser's value.
  The contracts of dn's part, Is and what these call.
  The contract of dn's Parse.
  The contracts of dn's Fold, Norm, Same, Under, Up.
-/
import Derived.Test.YtkpghepeagafoaaGreatJae
import Derived.Test.YtkpghepeagafoaaGreatJak
import Derived.Test.YtkpghepeagafoaaGreatJac
import Derived.Test.YtkpghepeagafoaaGreatRows
set_option linter.unusedSimpArgs false
set_option linter.unusedVariables false
set_option maxRecDepth 8000
set_option linter.unusedVariables false
namespace Go.Proofs.YtkpghepeagafoaaGreat
open Go.Vk
attribute [local irreducible] HT HX RegS RegA RegM OpP OpC AltT

theorem next (b : List UInt8) (hl : b.length ≤ 140737488355328) : CFn Tryz.prog 71 [TBytes b] (TTup [okI .u8 ((Ber.nextB b).tag.toNat : Int), TBytes (Ber.nextB b).body, TBytes (Ber.nextB b).rest, okI .i64 (Ber.nextB b).e]) := by
  have hh := Ber.headB_ok b
  have c1 := head b hl
  refine CallsC.of Tryz.call71 Tryz.func71 rfl Tryz.ntmps71 rfl fun w0 G0 S0 hs ho => ?_
  refine run ?_
  and_intros
  all_goals intros
  all_goals simp only [Ber.nextB, *, if_true, if_false, ne_eq, not_true_eq_false, not_false_eq_true]
  all_goals rfl
theorem nextP (b : List UInt8) (hl : b.length ≤ 140737488355328) : CFn Tryz.prog 43 [TBytes b] (TTup [okI .u8 ((Ber.nextB b).tag.toNat : Int), TBytes (Ber.nextB b).body, TBytes (Ber.nextB b).rest, okI .i64 (Ber.nextB b).e]) := by
  have hh := Ber.nextB_len b
  have c1 := next b hl
  have c2 := fun l hl => clone l hl
  refine CallsC.of Tryz.call43 Tryz.func43 rfl Tryz.ntmps43 rfl fun w0 G0 S0 hs ho => ?_
  exact run trivial
theorem length (n : Int) (h : 0 ≤ n ∧ n ≤ 9223372036854775807) : CFn Tryz.prog 118 [okI .i64 n] (TBytes (Ber.lenB n)) := by
  refine CallsC.of Tryz.call118 Tryz.func118 rfl Tryz.ntmps118 rfl fun w0 G0 S0 hs ho => ?_
  refine run ?_
  refine ⟨fun hb => ?_, fun hb => ?_⟩
  · rw [Ber.lenB, if_pos hb]
  refine HT.loopX (σ := Nat × Int × List UInt8) [2] (fun s => [(0, okI .i64 s.2.1), (3, TBytes s.2.2)]) (fun _ => []) (fun s => Ber.lenAcc s.1 s.2.1 s.2.2 = Ber.lenAcc 8 n [] ∧ 0 ≤ s.2.1 ∧ s.2.1 < 256 ^ s.1 ∧ s.2.2.length + s.1 = 8) (fun s => s.1) (8, n, []) ⟨rfl, h.1, by simp; omega, rfl⟩ (run trivial) (run trivial) ?_
  rintro ⟨k, m, acc⟩ ⟨h1, h2, h3, h4⟩
  dsimp only at h1 h2 h3 h4 ⊢
  have hk : acc.length ≤ 8 := by omega
  refine run ?_
  refine ⟨fun hb => ?_, fun hb => ?_⟩
  · obtain ⟨k, rfl⟩ : ∃ j, k = j + 1 := by
      cases k with
      | zero => simp at h3; omega
      | succ k => exact ⟨k, rfl⟩
    refine HX.roundX (k, m / 256, b8 m :: acc) ⟨⟨?_, by dsimp only; omega, ?_, by simp; omega⟩, by dsimp only; omega⟩ rfl (run trivial) (by refine run ?_; rfl)
    · rw [← h1, Ber.lenAcc, if_pos hb]
    · dsimp only; rw [Int.pow_succ] at h3; omega
  · have hacc : acc = Ber.lenAcc 8 n [] := by
      rw [← h1]
      cases k with
      | zero => rfl
      | succ k => rw [Ber.lenAcc, if_neg (by omega)]
    rw [Ber.lenB, if_neg (by omega), ← hacc, Ber.lenB_or _ hk]
    rfl
theorem int (n : Int) (h : -9223372036854775808 ≤ n ∧ n ≤ 9223372036854775807) : CFn Tryz.prog 98 [okI .i64 n] (TBytes (Ber.intB n)) := by
  refine CallsC.of Tryz.call98 Tryz.func98 rfl Tryz.ntmps98 rfl fun w0 G0 S0 hs ho => ?_
  refine run ?_
  refine HT.loopX (σ := Nat × Int × List UInt8) [] (fun s => [(0, okI .i64 s.2.1), (3, TBytes s.2.2)]) (fun _ => []) (fun s => Ber.intAcc s.1 s.2.1 s.2.2 = Ber.intB n ∧ -(Ber.rb s.1) ≤ s.2.1 ∧ s.2.1 < Ber.rb s.1 ∧ s.2.2.length + s.1 = 8) (fun s => s.1) (7, n, [b8 n]) ⟨rfl, by rw [Ber.rb7]; exact h.1, by rw [Ber.rb7]; dsimp only; omega, rfl⟩ (run trivial) (run trivial) ?_
  rintro ⟨k, m, acc⟩ ⟨h1, h2, h3, h4⟩
  dsimp only at h1 h2 h3 h4 ⊢
  have hk : acc.length ≤ 8 := by omega
  refine run ?_
  refine ⟨fun hb => ?_, fun hb => ?_⟩
  · obtain ⟨k, rfl⟩ : ∃ j, k = j + 1 := by
      cases k with
      | zero => simp only [Ber.rb] at h2 h3; omega
      | succ k => exact ⟨k, rfl⟩
    refine HX.roundX (k, m / 256, b8 (m / 256) :: acc) ⟨⟨?_, ?_, ?_, by simp; omega⟩, by dsimp only; omega⟩ rfl (run trivial) (by refine run ?_; rfl)
    · rw [← h1, Ber.intAcc, if_pos hb]
    · dsimp only; simp only [Ber.rb] at h2; omega
    · dsimp only; simp only [Ber.rb] at h3; omega
  · rw [← h1]
    cases k with
    | zero => rfl
    | succ k => rw [Ber.intAcc, if_neg (by omega)]
theorem fromInt (b : List UInt8) : CFn Tryz.prog 74 [TBytes b] (TTup [okI .i64 (Ber.fromIntB b).1, okI .i64 (Ber.fromIntB b).2]) := by
  have hs8 := Ber.s8_bd (b.getD 0 0)
  refine CallsC.of Tryz.call74 Tryz.func74 rfl Tryz.ntmps74 rfl fun w0 G0 S0 hs ho => ?_
  refine run ?_
  refine ⟨fun hb => ?_, fun hb => ?_, fun hb => ?_⟩
  · rw [Ber.fromIntB, if_pos (by omega)]
  · rw [Ber.fromIntB, if_pos (by omega)]
  have hs9 : -128 ≤ IntKind.i8.wrap ((b.getD (nat_lit 0) 0).toNat : Int) ∧ IntKind.i8.wrap ((b.getD (nat_lit 0) 0).toNat : Int) ≤ 127 := hs8
  refine ⟨_, fun _ => op_convi rfl rfl rfl, ?_⟩
  refine run ?_
  have e8 : IntKind.i8.wrap ((b.getD (nat_lit 0) 0).toNat : Int) = Ber.s8 (b.getD 0 0) := rfl
  rw [e8] at hs9
  generalize hsl : List.drop (Int.toNat 1) b = sl
  have hsll : sl.length ≤ 7 := by rw [← hsl]; simp; omega
  refine HT.loopX (σ := Nat) [21, 22] (fun i => [(23, okI .i64 (i : Int)), (4, okI .i64 (Ber.be (Ber.s8 (b.getD 0 0)) (sl.take i)))]) (fun _ => []) (fun i => i ≤ sl.length) (fun i => sl.length - i) 0 (Nat.zero_le _) (run trivial) (by refine run ?_; rfl) ?_
  intro i hi
  have hbd := fun h : i < 7 => Ber.be_rb7 (sl.take i) (Ber.s8_bd (b.getD 0 0)) (by simp; omega)
  by_cases hlt : i < sl.length
  · have hbd' := hbd (by omega)
    clear hbd
    refine run ?_
    intro _
    refine HX.roundX (i + 1) ⟨by omega, by omega⟩ rfl (run trivial) (by refine run ?_; rw [Ber.be_snoc _ _ _ hlt])
  · clear hbd
    refine run ?_
    refine ⟨fun _ => ?_, fun _ => ?_⟩
    · rw [Ber.fromIntB, if_neg (by omega), hsl, List.take_of_length_le (by omega)]
    · rw [Ber.fromIntB, if_neg (by omega)]
end Go.Proofs.YtkpghepeagafoaaGreat
set_option maxRecDepth 8000
set_option linter.unusedVariables false
namespace Go.Proofs.YtkpghepeagafoaaGreat
open Go.Vk
attribute [local irreducible] HT HX RegS RegA RegM OpP OpC AltT
attribute [local irreducible] Ber.lenB
set_option maxHeartbeats 1000000 in
theorem tagO (tag : UInt8) (ls : List (List UInt8)) (hl : Ber.tot ls ≤ 70368744177664) (hn : ls.length ≤ 70368744177664) : CFnO Tryz.prog 97 [okI .u8 (tag.toNat : Int), TSl 1 (cL 1 cB) ls] (TBytes (Ber.tagB tag ls)) 1 5 := by
  have e : Ber.tagB tag ls = tag :: (Ber.lenB (Ber.tot ls : Int) ++ ls.flatten) := rfl
  rw [e]
  clear e
  refine CallsC.of Tryz.call97 Tryz.func97 rfl Tryz.ntmps97 rfl fun w0 G0 S0 hs ho => ?_
  refine run ?_
  refine HT.loopX (σ := Nat) [0, 1, 11, 12] (fun i => [(13, okI .i64 (i : Int)), (5, okI .i64 (Ber.tot (ls.take i) : Int))]) (fun _ => []) (fun i => i ≤ ls.length) (fun i => ls.length - i) 0 (Nat.zero_le _) (run trivial) (by refine run ?_; rfl) ?_
  intro i hi
  have hb1 := Ber.tot_take ls i
  have hb2 := fun h => Ber.tot_get ls i h
  by_cases hlt : i < ls.length
  · have hb3 := hb2 hlt
    have hb4 := Ber.tot_snoc ls i hlt
    clear hb2
    refine run ?_
    intro _
    exact HX.roundX (i + 1) ⟨by omega, by omega⟩ rfl (run trivial) (run trivial)
  · clear hb2
    have hfull : ls.take i = ls := List.take_of_length_le (by omega)
    rw [hfull]
    have hlb := Ber.lenB_len (Ber.tot ls : Int)
    have c1 := length (Ber.tot ls : Int) (by omega)
    have mu := Mut.mk' [23]
    refine run ?_
    intro _ v0 _
    refine HT.loopX (σ := Nat × Value) [0, 1, 27, 28] (fun s => [(29, okI .i64 (s.1 : Int)), (8, TAnd (Is s.2) (TBytes (tag :: (Ber.lenB (Ber.tot ls : Int) ++ (ls.take s.1).flatten))))]) (fun s => [ownSl s.2 1 5]) (fun s => s.1 ≤ ls.length) (fun s => ls.length - s.1) (0, v0) (Nat.zero_le _) (run trivial) (by refine run ?_; simp) ?_
    clear c1 mu hi hb1 hlt hfull
    rintro ⟨j, v⟩ hj
    dsimp only at hj ⊢
    have hc1 := Ber.tot_take ls j
    have hc2 := fun h => Ber.tot_get ls j h
    have hc4 := Ber.tot_flat (ls.take j)
    by_cases hlj : j < ls.length
    · have hc3 := hc2 hlj
      have hc5 := Ber.take_snocD ls j hlj
      clear hc2
      refine run ?_
      intro v' _
      exact HX.roundX (j + 1, v') ⟨by dsimp only; omega, by dsimp only; omega⟩ rfl (run trivial) (by refine run ?_; rw [hc5]; simp)
    · clear hc2
      rw [List.take_of_length_le (by omega)]
      exact run trivial
end Go.Proofs.YtkpghepeagafoaaGreat
set_option linter.unusedVariables false
namespace Go.Ber
open Go.Vk
theorem s8_val (c : UInt8) : s8 c = if c.toNat < 128 then (c.toNat : Int) else (c.toNat : Int) - 256 :=
  all256 (p := fun c => s8 c = if c.toNat < 128 then (c.toNat : Int) else (c.toNat : Int) - 256) (by decide +kernel) c
theorem s8_b8 (m : Int) (h : -128 ≤ m ∧ m ≤ 127) : s8 (b8 m) = m := by
  rw [s8_val]
  have := b8_toNat m
  split <;> omega
theorem be_cons (a : Int) (c : UInt8) (t : List UInt8) : be a (c :: t) = be (a * 256 + (c.toNat : Int)) t := rfl
theorem be_inj : ∀ (t : List UInt8) (a b : Int), be a t = be b t → a = b
  | [], a, b, h => h
  | c :: t, a, b, h => by have := be_inj t (a * 256 + (c.toNat : Int)) (b * 256 + (c.toNat : Int)) h; omega
theorem be_div (n : Int) (t : List UInt8) : be (n / 256) (b8 n :: t) = be n t := by
  rw [be_cons, b8_toNat]
  congr 1
  omega
theorem intAcc_spec : ∀ (k : Nat) (n : Int) (acc : List UInt8), -(rb k) ≤ n → n < rb k → ∃ m t, intAcc k n (b8 n :: acc) = b8 m :: t ∧ (-128 ≤ m ∧ m ≤ 127) ∧ be m t = be n acc ∧ t.length ≤ k + acc.length ∧
    ((-128 ≤ n ∧ n ≤ 127) → t = acc ∧ m = n) ∧ (¬ (-128 ≤ n ∧ n ≤ 127) → ∃ m' t', t = b8 m' :: t' ∧ ¬ (-128 ≤ m' ∧ m' ≤ 127) ∧ be m' t' = be n acc ∧ m * 256 + (b8 m').toNat = m')
  | 0, n, acc, h1, h2 => by
    simp only [rb] at h1 h2
    exact ⟨n, acc, rfl, by omega, rfl, by omega, fun _ => ⟨rfl, rfl⟩, fun h => by omega⟩
  | k + 1, n, acc, h1, h2 => by
    simp only [rb] at h1 h2
    by_cases hr : 127 < n ∨ n < -128
    · obtain ⟨m, t, e1, e2, e3, e4, e5, e6⟩ := intAcc_spec k (n / 256) (b8 n :: acc) (by omega) (by omega)
      refine ⟨m, t, by rw [intAcc, if_pos hr]; exact e1, e2, by rw [e3, be_div], by simp at e4; omega, fun h => by omega, fun _ => ?_⟩
      by_cases hq : -128 ≤ n / 256 ∧ n / 256 ≤ 127
      · obtain ⟨h3, h4⟩ := e5 hq
        exact ⟨n, acc, h3, by omega, rfl, by rw [b8_toNat]; omega⟩
      · obtain ⟨m', t', g1, g2, g3, g4⟩ := e6 hq
        exact ⟨m', t', g1, g2, by rw [g3, be_div], g4⟩
    · exact ⟨n, acc, by rw [intAcc, if_neg hr], by omega, rfl, by omega, fun _ => ⟨rfl, rfl⟩, fun h => by omega⟩
/-- A number's bytes, all that is wanted of them. -/
theorem intB_spec (n : Int) (h : -9223372036854775808 ≤ n ∧ n ≤ 9223372036854775807) : ∃ m t, intB n = b8 m :: t ∧ (-128 ≤ m ∧ m ≤ 127) ∧ be m t = n ∧ t.length ≤ 7 ∧
    ((-128 ≤ n ∧ n ≤ 127) → t = [] ∧ m = n) ∧ (¬ (-128 ≤ n ∧ n ≤ 127) → ∃ m' t', t = b8 m' :: t' ∧ ¬ (-128 ≤ m' ∧ m' ≤ 127) ∧ be m' t' = n) := by
  obtain ⟨m, t, e1, e2, e3, e4, e5, e6⟩ := intAcc_spec 7 n [] (by rw [rb7]; exact h.1) (by rw [rb7]; omega)
  exact ⟨m, t, e1, e2, e3, by simpa using e4, e5, fun hn => let ⟨m', t', g1, g2, g3, _⟩ := e6 hn; ⟨m', t', g1, g2, g3⟩⟩
theorem intB_len (n : Int) (h : -9223372036854775808 ≤ n ∧ n ≤ 9223372036854775807) : 1 ≤ (intB n).length ∧ (intB n).length ≤ 8 := by
  obtain ⟨m, t, e1, _, _, e4, _⟩ := intB_spec n h
  rw [e1]; simp; omega
theorem intB_one (n : Int) (h : -9223372036854775808 ≤ n ∧ n ≤ 9223372036854775807) (h1 : (intB n).length = 1) : -128 ≤ n ∧ n ≤ 127 := by
  obtain ⟨m, t, e1, e2, e3, e4, e5, e6⟩ := intB_spec n h
  by_cases hn : -128 ≤ n ∧ n ≤ 127
  · exact hn
  · obtain ⟨m', t', g1, _⟩ := e6 hn
    rw [e1, g1] at h1
    simp at h1
theorem fromInt_int (n : Int) (h : -9223372036854775808 ≤ n ∧ n ≤ 9223372036854775807) : fromIntB (intB n) = (n, 0) := by
  obtain ⟨m, t, e1, e2, e3, e4, e5, e6⟩ := intB_spec n h
  have hl := intB_len n h
  rw [fromIntB, if_neg (by omega), e1]
  simp only [List.getD_cons_zero]
  rw [s8_b8 m e2]
  simp [e3]
theorem fromInt_shorter (n : Int) (h : -9223372036854775808 ≤ n ∧ n ≤ 9223372036854775807) (h1 : (intB n).length ≠ 1) : (fromIntB ((intB n).drop 1)).2 = 0 ∧ (fromIntB ((intB n).drop 1)).1 ≠ n := by
  obtain ⟨m, t, e1, e2, e3, e4, e5, e6⟩ := intB_spec n h
  have hl := intB_len n h
  by_cases hn : -128 ≤ n ∧ n ≤ 127
  · exfalso; rw [e1, (e5 hn).1] at h1; simp at h1
  · obtain ⟨m', t', g1, g2, g3⟩ := e6 hn
    subst g1
    rw [e1]
    simp only [List.drop_succ_cons, List.drop_zero]
    rw [fromIntB, if_neg (by simp at e4 ⊢; omega)]
    refine ⟨rfl, ?_⟩
    simp only [List.getD_cons_zero]
    intro he
    have h2 : be (s8 (b8 m')) t' = be m' t' := by rw [g3]; simpa using he
    have h3 := be_inj t' _ _ h2
    have := s8_bd (b8 m')
    omega
end Go.Ber
set_option maxRecDepth 8000
set_option linter.unusedVariables false
namespace Go.Proofs.YtkpghepeagafoaaGreat
open Go.Vk
attribute [local irreducible] HT HX RegS RegA OpP OpC
end Go.Proofs.YtkpghepeagafoaaGreat
set_option linter.unusedVariables false
namespace Go.Ber
open Go.Vk
abbrev TagOk (tag : UInt8) : Prop := ¬ ((tag &&& b8 31).toNat : Int) = 31
theorem lenB_1 (n : Int) (h : n < 128) : lenB n = [b8 n] := by unfold lenB; rw [if_pos h]
theorem lenB_2 (n : Int) (h : 128 ≤ n ∧ n < 256) : lenB n = [b8 129, b8 n] := by
  have e : lenAcc 8 n [] = [b8 n] := by
    unfold lenAcc; rw [if_pos (by omega)]
    unfold lenAcc; rw [if_neg (by omega)]
  unfold lenB; rw [if_neg (by omega)]; dsimp only; rw [e]; rfl
theorem lenB_3 (n : Int) (h : 256 ≤ n ∧ n < 65536) : lenB n = [b8 130, b8 (n / 256), b8 n] := by
  have e : lenAcc 8 n [] = [b8 (n / 256), b8 n] := by
    unfold lenAcc; rw [if_pos (by omega)]
    unfold lenAcc; rw [if_pos (by omega)]
    unfold lenAcc; rw [if_neg (by omega)]
  unfold lenB; rw [if_neg (by omega)]; dsimp only; rw [e]; rfl
theorem b8_nat (n : Int) (h : 0 ≤ n ∧ n < 256) : ((b8 n).toNat : Int) = n := by
  unfold b8
  rw [UInt8.toNat_ofNat']
  omega
theorem headB_1 (tag : UInt8) (ht : TagOk tag) (n : Int) (h : 0 ≤ n ∧ n < 128) (r : List UInt8) : headB (tag :: b8 n :: r) = (2, n, 0) := by
  have h2 := b8_nat n (by omega)
  unfold headB
  simp only [List.getD_cons_zero, List.getD_cons_succ, List.length_cons]
  rw [if_neg (by omega), if_neg ht, if_neg (by omega), if_pos (by omega), h2]
theorem headB_k (tag : UInt8) (ht : TagOk tag) (k : Nat) (h : 1 ≤ k ∧ k ≤ 4) (r : List UInt8) : headB (tag :: b8 (128 + (k : Int)) :: r) = if r.length < k then (0, 0, 2) else (2 + (k : Int), be 0 (r.take k), 0) := by
  have h2 := b8_nat (128 + (k : Int)) (by omega)
  have h3 := andn128 (b8 (128 + (k : Int))) (by omega)
  have h4 : ((b8 (128 + (k : Int)) &&& ~~~ (b8 128)).toNat : Int) = k := by omega
  unfold headB
  simp only [List.getD_cons_zero, List.getD_cons_succ, List.length_cons]
  rw [if_neg (by omega), if_neg ht, if_neg (by omega), if_neg (by omega), h4, if_neg (by omega)]
  by_cases hr : r.length < k
  · rw [if_pos (by omega), if_pos hr]
  · rw [if_neg (by omega), if_neg hr]
    have e : (2 + (k : Int)).toNat = k + 2 := by omega
    rw [e]; rfl
theorem nextB_of {b : List UInt8} {p n : Int} (h : headB b = (p, n, 0)) (hn : n ≤ 65536) : nextB b = if (b.length : Int) - p < n then ⟨0, [], [], 2⟩ else ⟨b.getD 0 0, (b.take (p + n).toNat).drop p.toNat, b.drop (p + n).toNat, 0⟩ := by
  unfold nextB
  rw [h]
  dsimp only
  rw [if_neg (by simp), if_neg (by omega)]
theorem nextB_short {b : List UInt8} {p n : Int} (h : headB b = (p, n, 2)) : nextB b = ⟨0, [], [], 2⟩ := by
  unfold nextB
  rw [h]
  dsimp only
  rw [if_pos (by simp)]
/-- What stands behind a tag and a head of some bytes that says how long it is. -/
theorem nextB_at (tag : UInt8) (hd r : List UInt8) (n : Nat) (hn : n ≤ 65536) (h : headB (tag :: (hd ++ r)) = (1 + (hd.length : Int), (n : Int), 0)) : nextB (tag :: (hd ++ r)) = if r.length < n then ⟨0, [], [], 2⟩ else ⟨tag, r.take n, r.drop n, 0⟩ := by
  rw [nextB_of h (by omega)]
  have e1 : (1 + (hd.length : Int)).toNat = hd.length + 1 := by omega
  have e2 : (1 + (hd.length : Int) + (n : Int)).toNat = hd.length + n + 1 := by omega
  rw [e1, e2]
  simp only [List.length_cons, List.length_append, List.getD_cons_zero, List.take_succ_cons, List.drop_succ_cons]
  by_cases hr : r.length < n
  · rw [if_pos (by omega), if_pos hr]
  · rw [if_neg (by omega), if_neg hr]
    congr 1
    · rw [List.take_length_add_append, List.drop_left]
    · rw [List.drop_length_add_append]
theorem headB_len (tag : UInt8) (ht : TagOk tag) (n : Nat) (hn : n < 65536) (r : List UInt8) : headB (tag :: (lenB (n : Int) ++ r)) = (1 + ((lenB (n : Int)).length : Int), (n : Int), 0) := by
  by_cases h1 : n < 128
  · rw [lenB_1 _ (by omega)]
    exact headB_1 tag ht _ (by omega) r
  · by_cases h2 : n < 256
    · rw [lenB_2 _ (by omega)]
      have := headB_k tag ht 1 (by omega) (b8 (n : Int) :: r)
      rw [if_neg (by simp)] at this
      refine this.trans ?_
      simp [be, b8_nat (n : Int) (by omega)]
    · rw [lenB_3 _ (by omega)]
      have := headB_k tag ht 2 (by omega) (b8 ((n : Int) / 256) :: b8 (n : Int) :: r)
      rw [if_neg (by simp)] at this
      refine this.trans ?_
      have e1 := b8_nat ((n : Int) / 256) (by omega)
      have e2 : ((b8 (n : Int)).toNat : Int) = (n : Int) % 256 := by
        unfold b8; rw [UInt8.toNat_ofNat']; omega
      simp [be, e1, e2]
      omega
/-- What is read where a tag and its length stand. -/
theorem nextB_tag (tag : UInt8) (ht : TagOk tag) (n : Nat) (hn : n < 65536) (r : List UInt8) : nextB (tag :: (lenB (n : Int) ++ r)) = if r.length < n then ⟨0, [], [], 2⟩ else ⟨tag, r.take n, r.drop n, 0⟩ :=
  nextB_at tag _ r n (by omega) (headB_len tag ht n hn r)
theorem tot_one (l : List UInt8) : tot [l] = l.length := by simp [tot]
theorem tagB_one (tag : UInt8) (l : List UInt8) : tagB tag [l] = tag :: (lenB (l.length : Int) ++ l) := by simp [tagB, tot_one]
theorem back (tag : UInt8) (ht : TagOk tag) (all rest : List UInt8) (hn : all.length < 65536) : nextB (tagB tag [all] ++ rest) = ⟨tag, all, rest, 0⟩ := by
  rw [tagB_one, List.cons_append, List.append_assoc, nextB_tag tag ht _ hn, if_neg (by simp)]
  simp
theorem cuts (tag : UInt8) (ht : TagOk tag) (body : List UInt8) (hn : body.length < 65536) (k : Nat) (hk : k < (tagB tag [body]).length) : nextB ((tagB tag [body]).take k) = ⟨0, [], [], 2⟩ := by
  rw [tagB_one] at *
  match k, hk with
  | 0, _ => rfl
  | 1, _ =>
    have e : (tag :: (lenB (body.length : Int) ++ body)).take 1 = [tag] := rfl
    rw [e]
    refine nextB_short (p := 0) (n := 0) ?_
    unfold headB
    simp only [List.getD_cons_zero, List.length_cons, List.length_nil]
    rw [if_neg (by simp), if_neg ht, if_pos (by simp)]
  | k + 2, hk =>
    rw [List.take_succ_cons, List.take_append]
    by_cases hl : (lenB (body.length : Int)).length ≤ k + 1
    · rw [List.take_of_length_le hl, nextB_tag tag ht _ hn, if_pos]
      simp only [List.length_cons, List.length_append] at hk
      rw [List.length_take]; omega
    · have e0 : k + 1 - (lenB (body.length : Int)).length = 0 := by omega
      rw [e0, List.take_zero, List.append_nil]
      by_cases h1 : body.length < 128
      · rw [lenB_1 _ (by omega)] at hl; simp at hl
      · by_cases h2 : body.length < 256
        · rw [lenB_2 _ (by omega)] at hl ⊢
          simp at hl
          subst hl
          have := headB_k tag ht 1 (by omega) []
          rw [if_pos (by simp)] at this
          exact nextB_short this
        · rw [lenB_3 _ (by omega)] at hl ⊢
          simp at hl
          have := headB_k tag ht 2 (by omega) ([b8 ((body.length : Int) / 256), b8 (body.length : Int)].take k)
          rw [if_pos (by simp; omega)] at this
          exact nextB_short this
theorem be_zeros : ∀ (k : Nat) (l : List UInt8), be 0 (List.replicate k 0 ++ l) = be 0 l
  | 0, l => rfl
  | k + 1, l => by
    rw [List.replicate_succ, List.cons_append]
    exact be_zeros k l
theorem long (tag : UInt8) (ht : TagOk tag) (body : List UInt8) (hn : body.length ≤ 255) (k : Nat) (hk : 1 ≤ k ∧ k ≤ 4) : nextB ([tag, b8 (128 + (k : Int))] ++ List.replicate (k - 1) 0 ++ [b8 (body.length : Int)] ++ body) = ⟨tag, body, [], 0⟩ := by
  have e : [tag, b8 (128 + (k : Int))] ++ List.replicate (k - 1) 0 ++ [b8 (body.length : Int)] ++ body = tag :: ((b8 (128 + (k : Int)) :: (List.replicate (k - 1) 0 ++ [b8 (body.length : Int)])) ++ body) := by simp
  rw [e, nextB_at tag _ body body.length (by omega) ?_]
  · rw [if_neg (by omega)]; simp
  · have := headB_k tag ht k hk ((List.replicate (k - 1) 0 ++ [b8 (body.length : Int)]) ++ body)
    have el : (List.replicate (k - 1) 0 ++ [b8 (body.length : Int)]).length = k := by simp; omega
    rw [if_neg (by rw [List.length_append, el]; omega)] at this
    rw [List.cons_append]
    refine this.trans ?_
    rw [List.take_append_of_le_length (by omega), List.take_of_length_le (by omega), be_zeros, List.length_cons, el]
    simp only [be, List.foldl_cons, List.foldl_nil, Int.zero_mul, Int.zero_add, b8_nat _ (show (0 : Int) ≤ (body.length : Int) ∧ (body.length : Int) < 256 by omega)]
    congr 1
    omega
/-! ### a head by cases, and what is read behind it -/
section
variable {b : List UInt8}
theorem headB_0 (h : (b.length : Int) < 1) : headB b = (0, 0, 2) := by unfold headB; rw [if_pos h]
theorem headB_31 (h : ¬ (b.length : Int) < 1) (h1 : ((b.getD 0 0 &&& b8 31).toNat : Int) = 31) : headB b = (0, 0, 3) := by unfold headB; rw [if_neg h, if_pos h1]
theorem headB_2 (h : ¬ (b.length : Int) < 1) (h1 : ¬ ((b.getD 0 0 &&& b8 31).toNat : Int) = 31) (h2 : (b.length : Int) < 2) : headB b = (0, 0, 2) := by unfold headB; rw [if_neg h, if_neg h1, if_pos h2]
theorem headB_b (h1 : ¬ ((b.getD 0 0 &&& b8 31).toNat : Int) = 31) (h2 : ¬ (b.length : Int) < 2) (h3 : ¬ 128 ≤ ((b.getD 1 0).toNat : Int)) : headB b = (2, ((b.getD 1 0).toNat : Int), 0) := by unfold headB; rw [if_neg (by omega), if_neg h1, if_neg h2, if_pos (by omega)]
theorem headB_big (h1 : ¬ ((b.getD 0 0 &&& b8 31).toNat : Int) = 31) (h2 : ¬ (b.length : Int) < 2) (h3 : 128 ≤ ((b.getD 1 0).toNat : Int)) : headB b = if ((b.getD 1 0).toNat : Int) - 128 < 1 ∨ 4 < ((b.getD 1 0).toNat : Int) - 128 then (0, 0, 3) else if (b.length : Int) < 2 + (((b.getD 1 0).toNat : Int) - 128) then (0, 0, 2) else (2 + (((b.getD 1 0).toNat : Int) - 128), be 0 ((b.drop 2).take (((b.getD 1 0).toNat : Int) - 128).toNat), 0) := by
  have e := andn128 (b.getD 1 0) (by omega)
  have e2 : (((b.getD 1 0) &&& ~~~ (b8 128)).toNat : Int) = ((b.getD 1 0).toNat : Int) - 128 := by omega
  unfold headB
  rw [if_neg (by omega), if_neg h1, if_neg h2, if_neg (by omega), e2]
  by_cases k1 : ((b.getD 1 0).toNat : Int) - 128 < 1 ∨ 4 < ((b.getD 1 0).toNat : Int) - 128
  · rw [if_pos (by omega), if_pos k1]
  · rw [if_neg (by omega), if_neg k1]
    by_cases k2 : (b.length : Int) < 2 + (((b.getD 1 0).toNat : Int) - 128)
    · rw [if_pos k2, if_pos k2]
    · rw [if_neg k2, if_neg k2]
      have e3 : (2 + (((b.getD 1 0).toNat : Int) - 128)).toNat = 2 + (((b.getD 1 0).toNat : Int) - 128).toNat := by omega
      rw [e3, List.drop_take]
      have e4 : 2 + (((b.getD 1 0).toNat : Int) - 128).toNat - Int.toNat 2 = (((b.getD 1 0).toNat : Int) - 128).toNat := by
        have : Int.toNat 2 = 2 := rfl
        omega
      rw [e4]; rfl
theorem headB_3 (h1 : ¬ ((b.getD 0 0 &&& b8 31).toNat : Int) = 31) (h2 : ¬ (b.length : Int) < 2) (h3 : 128 ≤ ((b.getD 1 0).toNat : Int)) (h4 : ((b.getD 1 0).toNat : Int) - 128 < 1 ∨ 4 < ((b.getD 1 0).toNat : Int) - 128) : headB b = (0, 0, 3) := by rw [headB_big h1 h2 h3, if_pos h4]
theorem headB_4 (h1 : ¬ ((b.getD 0 0 &&& b8 31).toNat : Int) = 31) (h2 : ¬ (b.length : Int) < 2) (h3 : 128 ≤ ((b.getD 1 0).toNat : Int)) (h4 : ¬ ((b.getD 1 0).toNat : Int) - 128 < 1 ∧ ¬ 4 < ((b.getD 1 0).toNat : Int) - 128) (h5 : (b.length : Int) < 2 + (((b.getD 1 0).toNat : Int) - 128)) : headB b = (0, 0, 2) := by rw [headB_big h1 h2 h3, if_neg (by omega), if_pos h5]
theorem headB_5 (h1 : ¬ ((b.getD 0 0 &&& b8 31).toNat : Int) = 31) (h2 : ¬ (b.length : Int) < 2) (h3 : 128 ≤ ((b.getD 1 0).toNat : Int)) (h4 : ¬ ((b.getD 1 0).toNat : Int) - 128 < 1 ∧ ¬ 4 < ((b.getD 1 0).toNat : Int) - 128) (h5 : ¬ (b.length : Int) < 2 + (((b.getD 1 0).toNat : Int) - 128)) : headB b = (2 + (((b.getD 1 0).toNat : Int) - 128), be 0 ((b.drop 2).take (((b.getD 1 0).toNat : Int) - 128).toNat), 0) := by rw [headB_big h1 h2 h3, if_neg (by omega), if_neg h5]
variable {p n e : Int}
theorem nextB_err (h : headB b = (p, n, e)) (he : e ≠ 0) : nextB b = ⟨0, [], [], e⟩ := by unfold nextB; rw [h]; dsimp only; rw [if_pos he]
theorem nextB_5 (h : headB b = (p, n, 0)) (h1 : 65536 < n) : nextB b = ⟨0, [], [], 5⟩ := by unfold nextB; rw [h]; dsimp only; rw [if_neg (by simp), if_pos h1]
theorem nextB_2 (h : headB b = (p, n, 0)) (h1 : ¬ 65536 < n) (h2 : (b.length : Int) - p < n) : nextB b = ⟨0, [], [], 2⟩ := by unfold nextB; rw [h]; dsimp only; rw [if_neg (by simp), if_neg h1, if_pos h2]
theorem nextB_ok (h : headB b = (p, n, 0)) (h1 : ¬ 65536 < n) (h2 : ¬ (b.length : Int) - p < n) : nextB b = ⟨b.getD 0 0, (b.take (p + n).toNat).drop p.toNat, b.drop (p + n).toNat, 0⟩ := by unfold nextB; rw [h]; dsimp only; rw [if_neg (by simp), if_neg h1, if_neg h2]
end
end Go.Ber
set_option maxRecDepth 8000
set_option linter.unusedVariables false
namespace Go.Proofs.YtkpghepeagafoaaGreat
open Go.Vk
attribute [local irreducible] HT HX RegS RegA RegM OpP OpC AltT
end Go.Proofs.YtkpghepeagafoaaGreat
set_option linter.unusedVariables false
namespace Go.Dn
open Go.Vk
/-- A part of a name. -/
structure Ava where
  typ : List UInt8
  val : List UInt8
instance : Inhabited Ava := ⟨⟨[], []⟩⟩
def cAva (a : Ava) : List Ty := [Is (str a.typ), Is (str a.val)]
theorem Ava.ext' {a b : Ava} (h1 : a.typ = b.typ) (h2 : a.val = b.val) : a = b := by cases a; cases b; simp at h1 h2; rw [h1, h2]
instance : DecidableEq Ava := fun a b => decidable_of_iff (a.typ = b.typ ∧ a.val = b.val) ⟨fun h => Ava.ext' h.1 h.2, fun h => by rw [h]; exact ⟨rfl, rfl⟩⟩

abbrev letB (c : UInt8) : Bool := decide (97 ≤ (c.toNat : Int)) && decide ((c.toNat : Int) ≤ 122) || (decide (65 ≤ (c.toNat : Int)) && decide ((c.toNat : Int) ≤ 90))
abbrev digB (c : UInt8) : Bool := decide (48 ≤ (c.toNat : Int)) && decide ((c.toNat : Int) ≤ 57)
def typC (c : UInt8) : Bool := letB c || digB c || decide ((c.toNat : Int) = 45)
def typB (s : List UInt8) : Bool := !(decide (s = [])) && decide ((s.length : Int) ≤ 32) && letB (s.getD 0 0) && s.all typC
theorem letB_iff (c : UInt8) : letB c = true ↔ (97 ≤ (c.toNat : Int) ∧ (c.toNat : Int) ≤ 122) ∨ (65 ≤ (c.toNat : Int) ∧ (c.toNat : Int) ≤ 90) := by
  simp only [letB, Bool.or_eq_true, Bool.and_eq_true, decide_eq_true_eq]
theorem typC_iff (c : UInt8) : typC c = true ↔ (97 ≤ (c.toNat : Int) ∧ (c.toNat : Int) ≤ 122) ∨ (65 ≤ (c.toNat : Int) ∧ (c.toNat : Int) ≤ 90) ∨ (48 ≤ (c.toNat : Int) ∧ (c.toNat : Int) ≤ 57) ∨ (c.toNat : Int) = 45 := by
  simp only [typC, letB, digB, Bool.or_eq_true, Bool.and_eq_true, decide_eq_true_eq]
  omega
theorem typB_iff (s : List UInt8) : typB s = true ↔ (0 < s.length ∧ s.length ≤ 32 ∧ letB (s.getD 0 0) = true) ∧ s.all typC = true := by
  simp only [typB, Bool.and_eq_true, Bool.not_eq_true', decide_eq_true_eq, decide_eq_false_iff_not, ← List.length_eq_zero_iff]
  constructor
  · rintro ⟨⟨⟨h1, h2⟩, h3⟩, h4⟩; exact ⟨⟨by omega, by omega, h3⟩, h4⟩
  · rintro ⟨⟨h1, h2, h3⟩, h4⟩; exact ⟨⟨⟨by omega, by omega⟩, h3⟩, h4⟩
theorem false_of {b : Bool} (h : b = true → False) : false = b := by
  cases b
  · rfl
  · exact (h rfl).elim
theorem true_of {b : Bool} (h : b = true) : true = b := h.symm
theorem all_take_snoc {p : UInt8 → Bool} {s : List UInt8} {i : Nat} (h : i < s.length) (h1 : (s.take i).all p = true) (h2 : p (s.getD i 0) = true) : (s.take (i + 1)).all p = true := by
  rw [List.take_succ_eq_append_getElem h, List.all_append, h1]
  rw [List.getD_eq_getElem?_getD, List.getElem?_eq_getElem h] at h2
  simpa using h2
theorem all_get {p : UInt8 → Bool} {s : List UInt8} {i : Nat} (h : i < s.length) (h1 : s.all p = true) : p (s.getD i 0) = true := by
  rw [List.getD_eq_getElem?_getD, List.getElem?_eq_getElem h]
  exact List.all_eq_true.1 h1 _ (List.getElem_mem h)
def hexOk (c : UInt8) : Bool := digB c || (decide (97 ≤ (c.toNat : Int)) && decide ((c.toNat : Int) ≤ 102)) || (decide (65 ≤ (c.toNat : Int)) && decide ((c.toNat : Int) ≤ 70))
def hexV (c : UInt8) : Int := if 48 ≤ (c.toNat : Int) ∧ (c.toNat : Int) ≤ 57 then (c.toNat : Int) - 48 else if 97 ≤ (c.toNat : Int) ∧ (c.toNat : Int) ≤ 102 then (c.toNat : Int) - 97 + 10 else if 65 ≤ (c.toNat : Int) ∧ (c.toNat : Int) ≤ 70 then (c.toNat : Int) - 65 + 10 else 0
theorem hexV_bd (c : UInt8) : 0 ≤ hexV c ∧ hexV c ≤ 15 := by unfold hexV; split <;> (try split) <;> (try split) <;> omega

/-- The place behind a row of bytes of a kind, from a place on. -/
def skipE (p : UInt8 → Bool) (s : List UInt8) (n : Nat) : Nat := n + ((s.drop n).takeWhile p).length
theorem drop_cons {s : List UInt8} {n : Nat} (h : n < s.length) : s.drop n = s.getD n 0 :: s.drop (n + 1) := by
  rw [List.drop_eq_getElem_cons h, List.getD_eq_getElem?_getD, List.getElem?_eq_getElem h]; rfl
theorem skipE_yes {p : UInt8 → Bool} {s : List UInt8} {n : Nat} (h : n < s.length) (hp : p (s.getD n 0) = true) : skipE p s n = skipE p s (n + 1) := by
  unfold skipE; rw [drop_cons h, List.takeWhile_cons, if_pos hp]; simp; omega
theorem skipE_no {p : UInt8 → Bool} {s : List UInt8} {n : Nat} (hp : n < s.length → p (s.getD n 0) = false) : skipE p s n = n := by
  unfold skipE
  by_cases h : n < s.length
  · rw [drop_cons h, List.takeWhile_cons, if_neg (by rw [hp h]; simp)]; rfl
  · rw [List.drop_eq_nil_of_le (by omega)]; rfl
theorem skipE_ge (p : UInt8 → Bool) (s : List UInt8) (n : Nat) : n ≤ skipE p s n := by unfold skipE; omega
theorem skipE_le (p : UInt8 → Bool) (s : List UInt8) (n : Nat) (h : n ≤ s.length) : skipE p s n ≤ s.length := by
  unfold skipE
  have h1 := (List.takeWhile_sublist p (l := s.drop n)).length_le
  rw [List.length_drop] at h1; omega

def spc : List UInt8 := [44, 43, 34, 92, 60, 62, 59]
def strk : List UInt8 := [44, 43, 34, 92, 60, 62, 59, 35, 61, 32]
/-- What stands behind a stroke: the place behind it, the byte, whether it may be. -/
def strokeE (s : List UInt8) (n : Nat) : Nat × Int × Bool :=
  if s.length ≤ n then (n, 0, false)
  else if 0 ≤ Lib.indexByte strk (s.getD n 0) then (n + 1, ((s.getD n 0).toNat : Int), true)
  else if hexOk (s.getD n 0) = false ∨ s.length ≤ n + 1 then (n + 1, 0, false)
  else (n + 2, hexV (s.getD n 0) * 16 + hexV (s.getD (n + 1) 0), hexOk (s.getD (n + 1) 0))
theorem strokeE_0 {s : List UInt8} {n : Nat} (h : s.length ≤ n) : strokeE s n = (n, 0, false) := if_pos h
theorem strokeE_1 {s : List UInt8} {n : Nat} (h : n < s.length) (h1 : 0 ≤ Lib.indexByte strk (s.getD n 0)) : strokeE s n = (n + 1, ((s.getD n 0).toNat : Int), true) := by
  unfold strokeE; rw [if_neg (by omega), if_pos h1]
theorem strokeE_2 {s : List UInt8} {n : Nat} (h : n < s.length) (h1 : ¬ 0 ≤ Lib.indexByte strk (s.getD n 0)) (h2 : hexOk (s.getD n 0) = false ∨ s.length ≤ n + 1) : strokeE s n = (n + 1, 0, false) := by
  unfold strokeE; rw [if_neg (by omega), if_neg h1, if_pos h2]
theorem strokeE_3 {s : List UInt8} {n : Nat} (h1 : ¬ 0 ≤ Lib.indexByte strk (s.getD n 0)) (h2 : hexOk (s.getD n 0) = true) (h3 : n + 1 < s.length) : strokeE s n = (n + 2, hexV (s.getD n 0) * 16 + hexV (s.getD (n + 1) 0), hexOk (s.getD (n + 1) 0)) := by
  unfold strokeE; rw [if_neg (by omega), if_neg h1, if_neg (by rw [h2]; simp; omega)]
theorem strokeE_bd (s : List UInt8) (n : Nat) (h : n ≤ s.length) : n ≤ (strokeE s n).1 ∧ (strokeE s n).1 ≤ s.length ∧ 0 ≤ (strokeE s n).2.1 ∧ (strokeE s n).2.1 < 256 := by
  unfold strokeE
  have h1 := hexV_bd (s.getD n 0)
  have h2 := hexV_bd (s.getD (n + 1) 0)
  have h3 := (s.getD n 0).toNat_lt
  repeat' split
  all_goals dsimp only
  all_goals omega
/-- A value: the place behind it, its bytes, how many of them count; none: it may not be. -/
def valE : Nat → List UInt8 → Nat → List UInt8 → Nat → Nat × Option (List UInt8 × Nat)
  | 0, _, n, b, e => (n, some (b, e))
  | k + 1, s, n, b, e =>
    if n < s.length ∧ ((s.getD n 0).toNat : Int) ≠ 44 then
      if ((s.getD n 0).toNat : Int) = 92 then
        if (strokeE s (n + 1)).2.2 = true then valE k s (strokeE s (n + 1)).1 (b ++ [b8 (strokeE s (n + 1)).2.1]) (b.length + 1) else ((strokeE s (n + 1)).1, none)
      else if 0 ≤ Lib.indexByte spc (s.getD n 0) then (n + 1, none)
      else if ((s.getD n 0).toNat : Int) = 32 then valE k s (n + 1) (b ++ [s.getD n 0]) e
      else valE k s (n + 1) (b ++ [s.getD n 0]) (b.length + 1)
    else (n, some (b, e))
def valueE (s : List UInt8) (n : Nat) : Nat × List UInt8 × Bool :=
  match valE (s.length - n) s n [] 0 with
  | (m, some (b, e)) => (m, b.take e, decide (0 < e))
  | (m, none) => (m, [], false)
theorem valE_end {k : Nat} {s : List UInt8} {n : Nat} {b : List UInt8} {e : Nat} (h : ¬ (n < s.length ∧ ((s.getD n 0).toNat : Int) ≠ 44)) : valE k s n b e = (n, some (b, e)) := by
  cases k
  · rfl
  · unfold valE; rw [if_neg h]
theorem valE_bad {k : Nat} {s : List UInt8} {n : Nat} {b : List UInt8} {e : Nat} (h : n < s.length ∧ ((s.getD n 0).toNat : Int) ≠ 44) (h1 : ((s.getD n 0).toNat : Int) = 92) (h2 : (strokeE s (n + 1)).2.2 = false) : valE (k + 1) s n b e = ((strokeE s (n + 1)).1, none) := by
  unfold valE; rw [if_pos h, if_pos h1, h2]; rfl
theorem valE_str {k : Nat} {s : List UInt8} {n : Nat} {b : List UInt8} {e : Nat} (h : n < s.length ∧ ((s.getD n 0).toNat : Int) ≠ 44) (h1 : ((s.getD n 0).toNat : Int) = 92) (h2 : (strokeE s (n + 1)).2.2 = true) : valE (k + 1) s n b e = valE k s (strokeE s (n + 1)).1 (b ++ [b8 (strokeE s (n + 1)).2.1]) (b.length + 1) := by
  conv => lhs; unfold valE
  rw [if_pos h, if_pos h1, if_pos h2]
theorem valE_spc {k : Nat} {s : List UInt8} {n : Nat} {b : List UInt8} {e : Nat} (h : n < s.length ∧ ((s.getD n 0).toNat : Int) ≠ 44) (h1 : ¬ ((s.getD n 0).toNat : Int) = 92) (h2 : 0 ≤ Lib.indexByte spc (s.getD n 0)) : valE (k + 1) s n b e = (n + 1, none) := by
  unfold valE; rw [if_pos h, if_neg h1, if_pos h2]
theorem valE_blank {k : Nat} {s : List UInt8} {n : Nat} {b : List UInt8} {e : Nat} (h : n < s.length ∧ ((s.getD n 0).toNat : Int) ≠ 44) (h1 : ¬ ((s.getD n 0).toNat : Int) = 92) (h2 : ¬ 0 ≤ Lib.indexByte spc (s.getD n 0)) (h3 : ((s.getD n 0).toNat : Int) = 32) : valE (k + 1) s n b e = valE k s (n + 1) (b ++ [s.getD n 0]) e := by
  conv => lhs; unfold valE
  rw [if_pos h, if_neg h1, if_neg h2, if_pos h3]
theorem valE_else {k : Nat} {s : List UInt8} {n : Nat} {b : List UInt8} {e : Nat} (h : n < s.length ∧ ((s.getD n 0).toNat : Int) ≠ 44) (h1 : ¬ ((s.getD n 0).toNat : Int) = 92) (h2 : ¬ 0 ≤ Lib.indexByte spc (s.getD n 0)) (h3 : ¬ ((s.getD n 0).toNat : Int) = 32) : valE (k + 1) s n b e = valE k s (n + 1) (b ++ [s.getD n 0]) (b.length + 1) := by
  conv => lhs; unfold valE
  rw [if_pos h, if_neg h1, if_neg h2, if_neg h3]
theorem valueE_some {s : List UInt8} {n m : Nat} {b : List UInt8} {e : Nat} (h : valE (s.length - n) s n [] 0 = (m, some (b, e))) : valueE s n = (m, b.take e, decide (0 < e)) := by unfold valueE; rw [h]
theorem valueE_none {s : List UInt8} {n m : Nat} (h : valE (s.length - n) s n [] 0 = (m, none)) : valueE s n = (m, [], false) := by unfold valueE; rw [h]
theorem valueE_bd (s : List UInt8) (n : Nat) (h : n ≤ s.length) : n ≤ (valueE s n).1 ∧ (valueE s n).1 ≤ s.length ∧ (valueE s n).2.1.length ≤ s.length := by
  have key : ∀ (k n : Nat) (b : List UInt8) (e : Nat), n ≤ s.length → b.length ≤ n → n ≤ (valE k s n b e).1 ∧ (valE k s n b e).1 ≤ s.length ∧ ∀ c, (valE k s n b e).2 = some c → c.1.length ≤ s.length := by
    intro k
    induction k with
    | zero => intro n b e h hb; exact ⟨Nat.le_refl _, h, fun c hc => by cases hc; dsimp only; omega⟩
    | succ k ih =>
      intro n b e h hb
      have h1 := strokeE_bd s (n + 1)
      unfold valE
      split
      · split
        · split
          · have := ih (strokeE s (n + 1)).1 (b ++ [b8 (strokeE s (n + 1)).2.1]) (b.length + 1) (by omega) (by simp; omega)
            exact ⟨by omega, this.2.1, this.2.2⟩
          · dsimp only
            exact ⟨by omega, by omega, fun c hc => by cases hc⟩
        · split
          · dsimp only
            exact ⟨by omega, by omega, fun c hc => by cases hc⟩
          · split
            · have := ih (n + 1) (b ++ [s.getD n 0]) e (by omega) (by simp; omega)
              exact ⟨by omega, this.2.1, this.2.2⟩
            · have := ih (n + 1) (b ++ [s.getD n 0]) (b.length + 1) (by omega) (by simp; omega)
              exact ⟨by omega, this.2.1, this.2.2⟩
      · exact ⟨Nat.le_refl _, h, fun c hc => by cases hc; dsimp only; omega⟩
  have := key (s.length - n) n [] 0 h (by simp)
  cases hv : valE (s.length - n) s n [] 0 with
  | mk m o =>
    rw [hv] at this
    cases o with
    | none => rw [valueE_none hv]; exact ⟨this.1, this.2.1, by simp⟩
    | some c =>
      rw [valueE_some hv]
      have h2 := this.2.2 c rfl
      exact ⟨this.1, this.2.1, by dsimp only; rw [List.length_take]; omega⟩
def blk (c : UInt8) : Bool := decide ((c.toNat : Int) = 32)
/-- A part: the place behind it, what was told, whether it may be. -/
def kindE (s : List UInt8) (n : Nat) : Nat := skipE typC s (skipE blk s n)
def typE (s : List UInt8) (n : Nat) : List UInt8 := (s.take (kindE s n)).drop (skipE blk s n)
def eqE (s : List UInt8) (n : Nat) : Nat := skipE blk s (kindE s n)
def valP (s : List UInt8) (n : Nat) : Nat := skipE blk s (eqE s n + 1)
def partE (s : List UInt8) (n : Nat) : Nat × Ava × Bool :=
  if typB (typE s n) = false then (kindE s n, ⟨typE s n, []⟩, false)
  else if ¬ (eqE s n < s.length ∧ ((s.getD (eqE s n) 0).toNat : Int) = 61) then (eqE s n, ⟨typE s n, []⟩, false)
  else ((valueE s (valP s n)).1, ⟨typE s n, (valueE s (valP s n)).2.1⟩, (valueE s (valP s n)).2.2)
theorem partE_0 {s : List UInt8} {n : Nat} (h : typB (typE s n) = false) : partE s n = (kindE s n, ⟨typE s n, []⟩, false) := if_pos h
theorem partE_1 {s : List UInt8} {n : Nat} (h : typB (typE s n) = true) (h1 : ¬ (eqE s n < s.length ∧ ((s.getD (eqE s n) 0).toNat : Int) = 61)) : partE s n = (eqE s n, ⟨typE s n, []⟩, false) := by
  unfold partE; rw [if_neg (by rw [h]; simp), if_pos h1]
theorem partE_2 {s : List UInt8} {n : Nat} (h : typB (typE s n) = true) (h1 : eqE s n < s.length ∧ ((s.getD (eqE s n) 0).toNat : Int) = 61) : partE s n = ((valueE s (valP s n)).1, ⟨typE s n, (valueE s (valP s n)).2.1⟩, (valueE s (valP s n)).2.2) := by
  unfold partE; rw [if_neg (by rw [h]; simp), if_neg (not_not_intro h1)]
theorem partE_1' {s : List UInt8} {n : Nat} (h : typB (typE s n) = true) (h1 : ¬ ((eqE s n : Nat) : Int) < (s.length : Int) ∨ ¬ ((s.getD (eqE s n) 0).toNat : Int) = 61) : partE s n = (eqE s n, ⟨typE s n, []⟩, false) := partE_1 h (fun hh => h1.elim (fun a => a (by omega)) (fun a => a hh.2))
theorem partE_2' {s : List UInt8} {n : Nat} (h : typB (typE s n) = true) (h1 : ((eqE s n : Nat) : Int) < (s.length : Int) ∧ ((s.getD (eqE s n) 0).toNat : Int) = 61) : partE s n = ((valueE s (valP s n)).1, ⟨typE s n, (valueE s (valP s n)).2.1⟩, (valueE s (valP s n)).2.2) := partE_2 h ⟨by omega, h1.2⟩
theorem nand {a b : Prop} (h : ¬ a ∨ ¬ b) : ¬ (a ∧ b) := fun hh => h.elim (fun k => k hh.1) (fun k => k hh.2)
theorem partE_bd (s : List UInt8) (n : Nat) (h : n ≤ s.length) : n ≤ skipE blk s n ∧ skipE blk s n ≤ kindE s n ∧ kindE s n ≤ eqE s n ∧ eqE s n ≤ s.length ∧ (eqE s n < s.length → eqE s n + 1 ≤ valP s n ∧ valP s n ≤ s.length) ∧ n ≤ (partE s n).1 ∧ (partE s n).1 ≤ s.length ∧ ((partE s n).2.2 = true → n < (partE s n).1) := by
  have h1 := skipE_ge blk s n
  have h2 := skipE_le blk s n h
  have h3 := skipE_ge typC s (skipE blk s n)
  have h4 := skipE_le typC s (skipE blk s n) h2
  have h5 := skipE_ge blk s (kindE s n)
  have h6 := skipE_le blk s (kindE s n) h4
  have h7 : eqE s n < s.length → eqE s n + 1 ≤ valP s n ∧ valP s n ≤ s.length := fun hl => ⟨skipE_ge blk s _, skipE_le blk s _ hl⟩
  refine ⟨h1, h3, h5, h6, h7, ?_⟩
  have h3' : skipE blk s n ≤ kindE s n := h3
  have h5' : kindE s n ≤ eqE s n := h5
  have h6' : eqE s n ≤ s.length := h6
  by_cases t1 : typB (typE s n) = false
  · rw [partE_0 t1]; dsimp only; exact ⟨by omega, by omega, fun hh => by cases hh⟩
  · by_cases t2 : eqE s n < s.length ∧ ((s.getD (eqE s n) 0).toNat : Int) = 61
    · have := h7 t2.1
      have h8 := valueE_bd s (valP s n) this.2
      rw [partE_2 (by simpa using t1) t2]; dsimp only; exact ⟨by omega, by omega, fun _ => by omega⟩
    · rw [partE_1 (by simpa using t1) t2]; dsimp only; exact ⟨by omega, by omega, fun hh => by cases hh⟩
/-- The parts of a text, one behind the other; none: one may not be. -/
def partsE : Nat → List UInt8 → Nat → List Ava → Option (List Ava)
  | 0, _, _, _ => none
  | k + 1, s, n, l =>
    if (partE s n).2.2 = false then none
    else if (partE s n).1 < s.length ∧ ((s.getD (partE s n).1 0).toNat : Int) = 44 then partsE k s ((partE s n).1 + 1) (l ++ [(partE s n).2.1])
    else some (l ++ [(partE s n).2.1])
def okA (a : Ava) : Bool := typB a.typ && !(decide (a.val = [])) && decide ((a.val.length : Int) ≤ 64)
def isE (l : List Ava) : Bool := decide ((l.length : Int) ≤ 12) && l.all okA
/-- A text as a name: the parts, the error. -/
def parseE (s : List UInt8) : List Ava × Int :=
  if s = [] then ([], 0)
  else match partsE (s.length + 1) s 0 [] with
    | none => ([], 3)
    | some l => if isE l = true then (l, 0) else ([], 5)
def ixOf (p : Ava → Bool) (l : List Ava) : Int := if l.any p = true then (l.findIdx p : Int) else -1
theorem getD_mem {l : List Ava} {i : Nat} (h : i < l.length) : l.getD i default ∈ l := by
  rw [List.getD_eq_getElem?_getD, List.getElem?_eq_getElem h]; exact List.getElem_mem h
theorem any_snoc {p : Ava → Bool} {l : List Ava} {i : Nat} (h : i < l.length) (h1 : (l.take i).any p = false) (h2 : p (l.getD i default) = false) : (l.take (i + 1)).any p = false := by
  rw [List.take_succ_eq_append_getElem h, List.any_append, h1]
  rw [List.getD_eq_getElem?_getD, List.getElem?_eq_getElem h] at h2
  simpa using h2
theorem ixOf_none {p : Ava → Bool} {l : List Ava} (h : l.any p = false) : ixOf p l = -1 := by unfold ixOf; rw [h]; rfl
theorem ixOf_at {p : Ava → Bool} {l : List Ava} {i : Nat} (h : i < l.length) (h1 : (l.take i).any p = false) (h2 : p (l.getD i default) = true) : ixOf p l = i := by
  have h3 : p l[i] = true := by rw [List.getD_eq_getElem?_getD, List.getElem?_eq_getElem h] at h2; exact h2
  have h4 : l.any p = true := List.any_eq_true.2 ⟨l[i], List.getElem_mem h, h3⟩
  unfold ixOf
  rw [if_pos h4]
  congr 1
  rw [List.findIdx_eq h]
  refine ⟨h3, fun j hj => ?_⟩
  rw [List.any_eq_false] at h1
  have := h1 (l[j]) (List.mem_take_iff_getElem.2 ⟨j, by omega, rfl⟩)
  simpa using this
theorem ixOf_nonneg {p : Ava → Bool} {l : List Ava} : decide (0 ≤ ixOf p l) = l.any p := by
  unfold ixOf
  cases h : l.any p
  · rfl
  · simp
theorem isE_any (l : List Ava) : isE l = (decide ((l.length : Int) ≤ 12) && !l.any (fun a => !okA a)) := by
  unfold isE; rw [List.not_any_eq_all_not]; simp
theorem partE_typ (s : List UInt8) (n : Nat) : (partE s n).2.1.typ.length ≤ s.length := by
  have h : (typE s n).length ≤ s.length := by
    unfold typE; rw [List.length_drop, List.length_take]; omega
  unfold partE
  split
  · exact h
  · split
    · exact h
    · exact h
theorem partsE_no {k : Nat} {s : List UInt8} {n : Nat} {l : List Ava} (h : (partE s n).2.2 = false) : partsE (k + 1) s n l = none := by unfold partsE; rw [if_pos h]
theorem partsE_more {k : Nat} {s : List UInt8} {n : Nat} {l : List Ava} (h : (partE s n).2.2 = true) (h1 : (((partE s n).1 : Nat) : Int) < (s.length : Int) ∧ ((s.getD (partE s n).1 0).toNat : Int) = 44) : partsE (k + 1) s n l = partsE k s ((partE s n).1 + 1) (l ++ [(partE s n).2.1]) := by
  conv => lhs; unfold partsE
  rw [if_neg (by rw [h]; simp), if_pos ⟨by omega, h1.2⟩]
theorem partsE_last {k : Nat} {s : List UInt8} {n : Nat} {l : List Ava} (h : (partE s n).2.2 = true) (h1 : ¬ ((((partE s n).1 : Nat) : Int) < (s.length : Int) ∧ ((s.getD (partE s n).1 0).toNat : Int) = 44)) : partsE (k + 1) s n l = some (l ++ [(partE s n).2.1]) := by
  unfold partsE; rw [if_neg (by rw [h]; simp), if_neg (fun hh => h1 ⟨by omega, hh.2⟩)]
theorem parseE_nil : parseE [] = ([], 0) := rfl
theorem parseE_none {s : List UInt8} (h0 : ¬ s = []) (h : partsE (s.length + 1) s 0 [] = none) : parseE s = ([], 3) := by unfold parseE; rw [if_neg h0, h]
theorem parseE_long {s : List UInt8} {l : List Ava} (h0 : ¬ s = []) (h : partsE (s.length + 1) s 0 [] = some l) (h1 : isE l = false) : parseE s = ([], 5) := by
  unfold parseE; rw [if_neg h0, h]; dsimp only; rw [if_neg (by rw [h1]; simp)]
theorem parseE_some {s : List UInt8} {l : List Ava} (h0 : ¬ s = []) (h : partsE (s.length + 1) s 0 [] = some l) (h1 : isE l = true) : parseE s = (l, 0) := by
  unfold parseE; rw [if_neg h0, h]; dsimp only; rw [if_pos h1]
/-! ### what does not count -/
def lowC (c : UInt8) : UInt8 := if 65 ≤ (c.toNat : Int) ∧ (c.toNat : Int) ≤ 90 then b8 ((c.toNat : Int) + 32) else c
def lastB (b : List UInt8) : UInt8 := b.getD (b.length - 1) 0
def foldStep (b : List UInt8) (c : UInt8) : List UInt8 := if (c.toNat : Int) = 32 ∧ ((b.length : Int) = 0 ∨ ((lastB b).toNat : Int) = 32) then b else b ++ [lowC c]
def trimE (b : List UInt8) : List UInt8 := if 0 < (b.length : Int) ∧ ((lastB b).toNat : Int) = 32 then b.take (b.length - 1) else b
def foldR (s : List UInt8) : List UInt8 := s.foldl foldStep []
def foldE (s : List UInt8) : List UInt8 := trimE (foldR s)
theorem foldStep_len (b : List UInt8) (c : UInt8) : (foldStep b c).length ≤ b.length + 1 := by unfold foldStep; split <;> simp
theorem foldR_take {s : List UInt8} {i : Nat} (h : i < s.length) : foldR (s.take (i + 1)) = foldStep (foldR (s.take i)) (s.getD i 0) := by
  unfold foldR
  rw [List.take_succ_eq_append_getElem h, List.foldl_append, List.getD_eq_getElem?_getD, List.getElem?_eq_getElem h]
  rfl
theorem foldR_len (s : List UInt8) : (foldR s).length ≤ s.length := by
  have : ∀ (s b : List UInt8), (s.foldl foldStep b).length ≤ b.length + s.length := by
    intro s
    induction s with
    | nil => intro b; simp
    | cons c t ih => intro b; have h1 := ih (foldStep b c); have h2 := foldStep_len b c; simp only [List.foldl_cons, List.length_cons]; omega
  simpa [foldR] using this s []
theorem foldE_len (s : List UInt8) : (foldE s).length ≤ s.length := by
  have := foldR_len s
  unfold foldE trimE
  split
  · rw [List.length_take]; omega
  · exact this
theorem lowC_up {c : UInt8} (h : 65 ≤ (c.toNat : Int) ∧ (c.toNat : Int) ≤ 90) : lowC c = b8 ((c.toNat : Int) + 32) := if_pos h
theorem lowC_no {c : UInt8} (h : ¬ (65 ≤ (c.toNat : Int) ∧ (c.toNat : Int) ≤ 90)) : lowC c = c := if_neg h
def normA (a : Ava) : Ava := ⟨foldE a.typ, if foldE a.val ≠ [] ∨ a.val = [] then foldE a.val else [32]⟩
def normE (l : List Ava) : List Ava := l.map normA
def sameE (a b : List Ava) : Bool := decide (normE a = normE b)
def underE (n base : List Ava) : Bool := decide (base.length ≤ n.length) && sameE (n.drop (n.length - base.length)) base
theorem lastB_at (b : List UInt8) : b.getD (((b.length : Nat) : Int) - 1).toNat 0 = lastB b := by
  unfold lastB
  rw [show (((b.length : Nat) : Int) - 1).toNat = b.length - 1 by omega]
theorem foldR_skip {s : List UInt8} {i : Nat} (h : i < s.length) (h1 : ((s.getD i 0).toNat : Int) = 32 ∧ (((foldR (s.take i)).length : Int) = 0 ∨ ((lastB (foldR (s.take i))).toNat : Int) = 32)) : foldR (s.take (i + 1)) = foldR (s.take i) := by
  rw [foldR_take h]; unfold foldStep; rw [if_pos h1]
theorem foldR_put {s : List UInt8} {i : Nat} (h : i < s.length) (h1 : ¬ ((s.getD i 0).toNat : Int) = 32 ∨ ¬ ((foldR (s.take i)).length : Int) = 0 ∧ ¬ ((lastB (foldR (s.take i))).toNat : Int) = 32) : foldR (s.take (i + 1)) = foldR (s.take i) ++ [lowC (s.getD i 0)] := by
  rw [foldR_take h]; unfold foldStep
  rw [if_neg (fun hh => h1.elim (fun k => k hh.1) (fun k => hh.2.elim k.1 k.2))]
theorem foldE_cut {s : List UInt8} (h : 0 < ((foldR s).length : Int) ∧ ((lastB (foldR s)).toNat : Int) = 32) : foldE s = (foldR s).take ((foldR s).length - 1) := if_pos h
theorem foldE_all {s : List UInt8} (h : ¬ 0 < ((foldR s).length : Int) ∨ ¬ ((lastB (foldR s)).toNat : Int) = 32) : foldE s = foldR s := if_neg (nand h)
/-! ### names as texts -/
def hexD : List UInt8 := [48, 49, 50, 51, 52, 53, 54, 55, 56, 57, 97, 98, 99, 100, 101, 102]
/-- A byte of a value as it is printed. -/
def tellC (v : List UInt8) (k : Nat) : List UInt8 :=
  if ((v.getD k 0).toNat : Int) < 32 ∨ 126 < ((v.getD k 0).toNat : Int) then [92] ++ (hexD.take ((((v.getD k 0).toNat : Int) / 16) + 1).toNat).drop (((v.getD k 0).toNat : Int) / 16).toNat ++ (hexD.take ((((v.getD k 0).toNat : Int) % 16) + 1).toNat).drop (((v.getD k 0).toNat : Int) % 16).toNat
  else if 0 ≤ Lib.indexByte spc (v.getD k 0) ∨ ((k : Int) = 0 ∧ (((v.getD k 0).toNat : Int) = 35 ∨ ((v.getD k 0).toNat : Int) = 32)) ∨ ((k : Int) = (v.length : Int) - 1 ∧ ((v.getD k 0).toNat : Int) = 32) then [92, v.getD k 0]
  else [v.getD k 0]
def tellR (v : List UInt8) (k : Nat) : List UInt8 := (List.range k).flatMap (tellC v)
def tellE (v : List UInt8) : List UInt8 := tellR v v.length
def printC (l : List Ava) (i : Nat) : List UInt8 := (if 0 < (i : Int) then [44] else []) ++ ((l.getD i default).typ ++ [61]) ++ tellE (l.getD i default).val
def printR (l : List Ava) (i : Nat) : List UInt8 := (List.range i).flatMap (printC l)
def printE (l : List Ava) : List UInt8 := printR l l.length
theorem tellR_succ (v : List UInt8) (k : Nat) : tellR v (k + 1) = tellR v k ++ tellC v k := by simp [tellR, List.range_succ]
theorem printR_succ (l : List Ava) (i : Nat) : printR l (i + 1) = printR l i ++ printC l i := by simp [printR, List.range_succ]
theorem tellR_zero (v : List UInt8) : tellR v 0 = [] := rfl
theorem printR_zero (l : List Ava) : printR l 0 = [] := rfl
theorem tellC_hex {v : List UInt8} {k : Nat} (h : ((v.getD k 0).toNat : Int) < 32 ∨ 126 < ((v.getD k 0).toNat : Int)) : tellC v k = [92] ++ (hexD.take ((((v.getD k 0).toNat : Int) / 16) + 1).toNat).drop (((v.getD k 0).toNat : Int) / 16).toNat ++ (hexD.take ((((v.getD k 0).toNat : Int) % 16) + 1).toNat).drop (((v.getD k 0).toNat : Int) % 16).toNat := if_pos h
theorem tellC_str {v : List UInt8} {k : Nat} (h : ¬ (((v.getD k 0).toNat : Int) < 32 ∨ 126 < ((v.getD k 0).toNat : Int))) (h1 : 0 ≤ Lib.indexByte spc (v.getD k 0) ∨ ((k : Int) = 0 ∧ (((v.getD k 0).toNat : Int) = 35 ∨ ((v.getD k 0).toNat : Int) = 32)) ∨ ((k : Int) = (v.length : Int) - 1 ∧ ((v.getD k 0).toNat : Int) = 32)) : tellC v k = [92, v.getD k 0] := by
  unfold tellC; rw [if_neg h, if_pos h1]
theorem tellC_one {v : List UInt8} {k : Nat} (h : ¬ (((v.getD k 0).toNat : Int) < 32 ∨ 126 < ((v.getD k 0).toNat : Int))) (h1 : ¬ (0 ≤ Lib.indexByte spc (v.getD k 0) ∨ ((k : Int) = 0 ∧ (((v.getD k 0).toNat : Int) = 35 ∨ ((v.getD k 0).toNat : Int) = 32)) ∨ ((k : Int) = (v.length : Int) - 1 ∧ ((v.getD k 0).toNat : Int) = 32))) : tellC v k = [v.getD k 0] := by
  unfold tellC; rw [if_neg h, if_neg h1]
theorem hexAt_len (n : Int) (h : 0 ≤ n ∧ n ≤ 15) : ((hexD.take (n + 1).toNat).drop n.toNat).length = 1 := by
  rw [List.length_drop, List.length_take]; show min (n + 1).toNat 16 - n.toNat = 1; omega
theorem tellC_len (v : List UInt8) (k : Nat) : (tellC v k).length ≤ 3 := by
  have hc := (v.getD k 0).toNat_lt
  unfold tellC
  split
  · rw [List.length_append, List.length_append, hexAt_len _ (by omega), hexAt_len _ (by omega)]; simp
  · split <;> simp
theorem tellR_len (v : List UInt8) (k : Nat) : (tellR v k).length ≤ 3 * k := by
  induction k with
  | zero => simp [tellR_zero]
  | succ k ih => rw [tellR_succ, List.length_append]; have := tellC_len v k; omega
def wgt : List Ava → Nat
  | [] => 0
  | a :: l => 1 + a.typ.length + a.val.length + wgt l
theorem wgt_take_succ {l : List Ava} {i : Nat} (h : i < l.length) : wgt (l.take (i + 1)) = wgt (l.take i) + (1 + (l.getD i default).typ.length + (l.getD i default).val.length) := by
  have ha : ∀ (a b : List Ava), wgt (a ++ b) = wgt a + wgt b := by
    intro a b
    induction a with
    | nil => simp [wgt]
    | cons x a ih => simp only [List.cons_append, wgt, ih]; omega
  rw [List.take_succ_eq_append_getElem h, ha, List.getD_eq_getElem?_getD, List.getElem?_eq_getElem h]
  simp [wgt]
theorem wgt_take_le (l : List Ava) (i : Nat) : wgt (l.take i) ≤ wgt l := by
  induction l generalizing i with
  | nil => simp [wgt]
  | cons a l ih => cases i with
    | zero => simp [wgt]
    | succ i => simp only [List.take_succ_cons, wgt]; have := ih i; omega
theorem wgt_at {l : List Ava} {i : Nat} (h : i < l.length) : (l.getD i default).typ.length + (l.getD i default).val.length + 1 ≤ wgt l := by
  have h1 := wgt_take_succ h
  have h2 := wgt_take_le l (i + 1)
  omega
theorem wgt_len (l : List Ava) : l.length ≤ wgt l := by
  induction l with
  | nil => simp
  | cons a l ih => simp only [List.length_cons, wgt]; omega
theorem printR_len {l : List Ava} {i : Nat} (h : i ≤ l.length) : (printR l i).length ≤ 3 * wgt (l.take i) := by
  induction i with
  | zero => simp [printR_zero]
  | succ i ih =>
    have h1 := ih (by omega)
    have h2 := wgt_take_succ (l := l) (i := i) (by omega)
    have h3 := tellR_len (l.getD i default).val (l.getD i default).val.length
    rw [printR_succ, List.length_append]
    unfold printC tellE
    have h4 : (if 0 < (i : Int) then [44] else ([] : List UInt8)).length ≤ 1 := by split <;> simp
    simp only [List.length_append, List.length_cons, List.length_nil]
    omega
/-! ### equal rows -/
theorem avaB (a b : Ava) : allB [decide (a.typ = b.typ), decide (a.val = b.val)] = decide (a = b) := by
  by_cases h : a = b
  · subst h; simp [allB]
  · rw [decide_eq_false h]
    by_cases h1 : a.typ = b.typ
    · by_cases h2 : a.val = b.val
      · exact absurd (Ava.ext' h1 h2) h
      · simp [allB, h2]
    · simp [allB, h1]
theorem take_ext {α : Type} [Inhabited α] {l m : List α} {i : Nat} (h : i < l.length) (h' : l.length = m.length) (he : l.take i = m.take i) (hv : l.getD i default = m.getD i default) : l.take (i + 1) = m.take (i + 1) := by
  have h2 : i < m.length := by omega
  rw [List.take_succ_eq_append_getElem h, List.take_succ_eq_append_getElem h2, he]
  rw [List.getD_eq_getElem?_getD, List.getElem?_eq_getElem h, List.getD_eq_getElem?_getD, List.getElem?_eq_getElem h2] at hv
  have hv' : l[i] = m[i] := hv
  rw [hv']
theorem take_all {α : Type} {l m : List α} {i : Nat} (h : ¬ (i : Int) < (l.length : Int)) (h' : l.length = m.length) (he : l.take i = m.take i) : l = m := by
  rwa [List.take_of_length_le (by omega), List.take_of_length_le (by omega)] at he
theorem normE_take {l : List Ava} {i : Nat} (h : i < l.length) : normE (l.take (i + 1)) = normE (l.take i) ++ [normA (l.getD i default)] := by
  unfold normE
  rw [List.take_succ_eq_append_getElem h, List.map_append, List.getD_eq_getElem?_getD, List.getElem?_eq_getElem h]; rfl
theorem wgt_drop (l : List Ava) (k : Nat) : wgt (l.drop k) ≤ wgt l := by
  induction l generalizing k with
  | nil => simp [wgt]
  | cons a l ih => cases k with
    | zero => simp
    | succ k => simp only [List.drop_succ_cons, wgt]; have := ih k; omega
end Go.Dn
set_option maxRecDepth 8000
set_option linter.unusedVariables false
namespace Go.Proofs.YtkpghepeagafoaaGreat
open Go.Vk
attribute [local irreducible] HT HX RegS RegA RegM OpP OpC AltT
theorem dnLetter (c : UInt8) : CFn Tryz.prog 143 [okI .u8 (c.toNat : Int)] (Is (.bool (Dn.letB c))) := by
  refine CallsC.of Tryz.call143 Tryz.func143 rfl Tryz.ntmps143 rfl fun w0 G0 S0 hs ho => ?_
  exact run trivial
theorem dnDigit (c : UInt8) : CFn Tryz.prog 144 [okI .u8 (c.toNat : Int)] (Is (.bool (Dn.digB c))) := by
  refine CallsC.of Tryz.call144 Tryz.func144 rfl Tryz.ntmps144 rfl fun w0 G0 S0 hs ho => ?_
  exact run trivial
theorem dnType (s : List UInt8) (hl : s.length ≤ 4611686018427387904) : CFn Tryz.prog 139 [Is (str s)] (Is (.bool (Dn.typB s))) := by
  have c1 := dnLetter
  have c2 := dnDigit
  refine CallsC.of Tryz.call139 Tryz.func139 rfl Tryz.ntmps139 rfl fun w0 G0 S0 hs ho => ?_
  refine run ?_
  refine ⟨?_, ?_⟩
  · intro h
    refine Dn.false_of fun hb => ?_
    have h1 := (Dn.typB_iff s).1 hb
    rw [Dn.letB_iff, ← List.length_eq_zero_iff] at *
    omega
  · intro h1
    refine HT.loopX (σ := Nat) [0, 19] (fun i => [(20, okI .i64 (i : Int))]) (fun _ => []) (fun i => i ≤ s.length ∧ (s.take i).all Dn.typC = true) (fun i => s.length - i) 0 ⟨Nat.zero_le _, by simp⟩ (run trivial) (run trivial) ?_
    rintro i ⟨hi, hall⟩
    refine run ?_
    refine ⟨fun h2 h3 => ?_, fun h2 h3 => ?_, fun h2 => ?_⟩
    · refine Dn.false_of fun hb => ?_
      have := (Dn.typC_iff _).1 (Dn.all_get (i := i) (by omega) ((Dn.typB_iff s).1 hb).2)
      omega
    · exact HX.roundX (i + 1) ⟨⟨by omega, Dn.all_take_snoc (by omega) hall ((Dn.typC_iff _).2 (by omega))⟩, by omega⟩ rfl (run trivial) (run trivial)
    · rw [List.take_of_length_le (by omega)] at hall
      refine ((Dn.typB_iff s).2 ⟨?_, hall⟩).symm
      rw [Dn.letB_iff]
      rw [← List.length_eq_zero_iff] at h1
      omega
end Go.Proofs.YtkpghepeagafoaaGreat
set_option maxRecDepth 8000
set_option linter.unusedVariables false
namespace Go.Proofs.YtkpghepeagafoaaGreat
open Go.Vk
attribute [local irreducible] HT HX RegS RegA RegM OpP OpC AltT
end Go.Proofs.YtkpghepeagafoaaGreat
set_option maxRecDepth 8000
set_option linter.unusedVariables false
namespace Go.Proofs.YtkpghepeagafoaaGreat
open Go.Vk
attribute [local irreducible] HT HX RegS RegA RegM OpP OpC AltT
end Go.Proofs.YtkpghepeagafoaaGreat
set_option maxRecDepth 8000
set_option linter.unusedVariables false
namespace Go.Proofs.YtkpghepeagafoaaGreat
open Go.Vk
attribute [local irreducible] HT HX RegS RegA RegM OpP OpC AltT
end Go.Proofs.YtkpghepeagafoaaGreat
set_option maxRecDepth 8000
set_option linter.unusedVariables false
namespace Go.Proofs.YtkpghepeagafoaaGreat
open Go.Vk
attribute [local irreducible] HT HX RegS RegA RegM OpP OpC AltT
theorem toN1 (m : Nat) : (((m : Nat) : Int) + 1).toNat = m + 1 := by omega
end Go.Proofs.YtkpghepeagafoaaGreat
set_option maxRecDepth 8000
set_option linter.unusedVariables false
namespace Go.Proofs.YtkpghepeagafoaaGreat
open Go.Vk
attribute [local irreducible] HT HX RegS RegA RegM OpP OpC AltT
attribute [local irreducible] Dn.partE Dn.isE Dn.parseE
end Go.Proofs.YtkpghepeagafoaaGreat
set_option maxRecDepth 8000
set_option linter.unusedVariables false
namespace Go.Proofs.YtkpghepeagafoaaGreat
open Go.Vk
attribute [local irreducible] HT HX RegS RegA RegM OpP OpC AltT
attribute [local irreducible] Dn.foldR Dn.foldE
theorem subN1 (n : Nat) : (((n : Nat) : Int) - 1).toNat = n - 1 := by omega
attribute [local irreducible] Dn.normE Dn.normA Dn.sameE Dn.underE
end Go.Proofs.YtkpghepeagafoaaGreat
