/-
  Numbers and bytes in a row of bytes: the plain functions. Nothing here speaks of a program; no conditions.
-/
import Derived.Test.YtibabbepnhpaiaaVa
set_option linter.unusedVariables false
namespace Go.Oct
open Go.Vk
/-- A number: seven bits to a byte, the lowest first. -/
def numB (n : Nat) : List UInt8 := if h : n < 128 then [b8 (n : Int)] else (b8 (n : Int) ||| b8 128) :: numB (n / 128)
theorem numB_lt {n : Nat} (h : n < 128) : numB n = [b8 (n : Int)] := by rw [numB]; simp [h]
theorem numB_ge {n : Nat} (h : ¬ n < 128) : numB n = (b8 (n : Int) ||| b8 128) :: numB (n / 128) := by rw [numB]; simp [h]
theorem numB_len (k : Nat) : ∀ n : Nat, n < 128 ^ (k + 1) → 1 ≤ (numB n).length ∧ (numB n).length ≤ k + 1 := by
  induction k with
  | zero => intro n hn; rw [numB_lt (by omega)]; simp
  | succ k ih =>
    intro n hn
    by_cases h : n < 128
    · rw [numB_lt h]; simp
    · rw [numB_ge h]
      have := ih (n / 128) (by rw [Nat.div_lt_iff_lt_mul (by decide)]; calc n < 128 ^ (k + 1 + 1) := hn
            _ = 128 ^ (k + 1) * 128 := Nat.pow_succ ..)
      simp only [List.length_cons]
      omega
theorem numB_le {n : Nat} (h : n ≤ 4611686018427387904) : 1 ≤ (numB n).length ∧ (numB n).length ≤ 9 := numB_len 8 n (by omega)
def bytB (l : List UInt8) : List UInt8 := numB l.length ++ l
theorem b8_mod (n : Int) : b8 (n % 256) = b8 n := by
  unfold b8
  congr 1
  omega
theorem low7_tab : ∀ i : Fin 256, (b8 ((i.val : Int) % 128) ||| b8 128) = (b8 (i.val : Int) ||| b8 128) := by decide +kernel
theorem low7 (n : Nat) : (b8 ((n : Int) % 128) ||| b8 128) = (b8 (n : Int) ||| b8 128) := by
  have h := low7_tab ⟨n % 256, by omega⟩
  have e1 : (((n % 256 : Nat) : Int) % 128) = (n : Int) % 128 := by omega
  have e2 : b8 ((n % 256 : Nat) : Int) = b8 (n : Int) := by
    rw [show ((n % 256 : Nat) : Int) = (n : Int) % 256 by omega, b8_mod]
  simp only [e1, e2] at h
  exact h
theorem numB_snoc {n : Nat} (h : ¬ n < 128) (l : List UInt8) : l ++ [b8 (n : Int) ||| b8 128] ++ numB (n / 128) = l ++ numB n := by
  rw [numB_ge h]; simp
theorem numB_snoc7 {n : Nat} (h : ¬ n < 128) (l : List UInt8) : l ++ [b8 ((n : Int) % 128) ||| b8 128] ++ numB (n / 128) = l ++ numB n := by
  rw [low7, numB_snoc h]
theorem flat_snoc {α β : Type} [Inhabited α] {l : List α} {i : Nat} (f : α → List β) (h : i < l.length) : (l.take (i + 1)).flatMap f = (l.take i).flatMap f ++ f (l.getD i default) := by
  rw [List.take_succ_eq_append_getElem h, List.flatMap_append, List.getD_eq_getElem?_getD, List.getElem?_eq_getElem h]; simp
theorem flat_part {α β : Type} {l : List α} (f : α → List β) (i : Nat) : ((l.take i).flatMap f).length ≤ (l.flatMap f).length := by
  conv => rhs; rw [← List.take_append_drop i l, List.flatMap_append, List.length_append]
  omega
/-- A number read: what it is, what is left; i bytes were read, they say u. -/
def rdF (i : Nat) (u : Int) : List UInt8 → Option (Int × List UInt8)
  | [] => none
  | c :: r =>
    if 9 ≤ (i : Int) ∨ (0 < (i : Int) ∧ (c.toNat : Int) = 0) then none
    else if (c.toNat : Int) < 128 then (if 4611686018427387904 < orU u (shlU ((c &&& b8 127).toNat : Int) (7 * (i : Int))) then none else some (orU u (shlU ((c &&& b8 127).toNat : Int) (7 * (i : Int))), r))
    else rdF (i + 1) (orU u (shlU ((c &&& b8 127).toNat : Int) (7 * (i : Int)))) r
def numV (l : List UInt8) : Int := match rdF 0 0 l with | none => 0 | some x => x.1
def numT (l : List UInt8) : List UInt8 := match rdF 0 0 l with | none => [] | some x => x.2
def numE (l : List UInt8) (b : Bool) : Bool := match rdF 0 0 l with | none => true | some _ => b
theorem num_none {l : List UInt8} (h : rdF 0 0 l = none) (b : Bool) : numV l = 0 ∧ numT l = [] ∧ numE l b = true := by unfold numV numT numE; rw [h]; simp
theorem num_some {l : List UInt8} {x : Int × List UInt8} (h : rdF 0 0 l = some x) (b : Bool) : numV l = x.1 ∧ numT l = x.2 ∧ numE l b = b := by unfold numV numT numE; rw [h]; simp
theorem noneV {l : List UInt8} (h : rdF 0 0 l = none) : 0 = numV l := (num_none h true).1.symm
theorem noneT {l : List UInt8} (h : rdF 0 0 l = none) : [] = numT l := (num_none h true).2.1.symm
theorem noneE {l : List UInt8} (h : rdF 0 0 l = none) {b : Bool} : true = numE l b := (num_none h b).2.2.symm
theorem someV {l : List UInt8} {u : Int} {r : List UInt8} (h : rdF 0 0 l = some (u, r)) : u = numV l := (num_some h true).1.symm
theorem someT {l : List UInt8} {u : Int} {r r' : List UInt8} (h : rdF 0 0 l = some (u, r)) (e : r' = r) : r' = numT l := e.trans (num_some h true).2.1.symm
theorem someE {l : List UInt8} {u : Int} {r : List UInt8} (h : rdF 0 0 l = some (u, r)) {b : Bool} : b = numE l b := (num_some h b).2.2.symm
theorem drop_at {l : List UInt8} {i : Nat} (h : i < l.length) : l.drop i = l.getD i 0 :: l.drop (i + 1) := by
  rw [List.drop_eq_getElem_cons h]; simp [List.getD, h]
theorem rd_end {l : List UInt8} {i : Nat} {u : Int} (h : ¬ i < l.length) : rdF i u (l.drop i) = none := by
  rw [List.drop_of_length_le (by omega)]; rfl
theorem rd_bad {l : List UInt8} {i : Nat} {u : Int} (h : i < l.length) (k : 9 ≤ (i : Int) ∨ (0 < (i : Int) ∧ ((l.getD i 0).toNat : Int) = 0)) : rdF i u (l.drop i) = none := by
  rw [drop_at h, rdF, if_pos k]
theorem rd_great {l : List UInt8} {i : Nat} {u : Int} (h : i < l.length) (k : ((l.getD i 0).toNat : Int) < 128) (g : 4611686018427387904 < orU u (shlU ((l.getD i 0 &&& b8 127).toNat : Int) (7 * (i : Int)))) : rdF i u (l.drop i) = none := by
  rw [drop_at h, rdF, if_pos k, if_pos g]; simp
theorem rd_good {l : List UInt8} {i : Nat} {u : Int} (h : i < l.length) (b : ¬ (9 ≤ (i : Int) ∨ (0 < (i : Int) ∧ ((l.getD i 0).toNat : Int) = 0))) (k : ((l.getD i 0).toNat : Int) < 128) (g : ¬ 4611686018427387904 < orU u (shlU ((l.getD i 0 &&& b8 127).toNat : Int) (7 * (i : Int)))) : rdF i u (l.drop i) = some (orU u (shlU ((l.getD i 0 &&& b8 127).toNat : Int) (7 * (i : Int))), l.drop (i + 1)) := by
  rw [drop_at h, rdF, if_neg b, if_pos k, if_neg g]
theorem rd_no {l : List UInt8} {i : Nat} {u : Int} (h : i < l.length) (k : (9 ≤ (i : Int) ∨ (0 < (i : Int) ∧ ((l.getD i 0).toNat : Int) = 0)) ∨ ((l.getD i 0).toNat : Int) < 128 ∧ 4611686018427387904 < orU u (shlU ((l.getD i 0 &&& b8 127).toNat : Int) (7 * (i : Int)))) : rdF i u (l.drop i) = none := by
  rcases k with k | ⟨k, g⟩
  · exact rd_bad h k
  · exact rd_great h k g
theorem rd_next {l : List UInt8} {i : Nat} {u : Int} (h : i < l.length) (b : ¬ (9 ≤ (i : Int) ∨ (0 < (i : Int) ∧ ((l.getD i 0).toNat : Int) = 0))) (k : ¬ ((l.getD i 0).toNat : Int) < 128) : rdF i u (l.drop i) = rdF (i + 1) (orU u (shlU ((l.getD i 0 &&& b8 127).toNat : Int) (7 * (i : Int)))) (l.drop (i + 1)) := by
  rw [drop_at h, rdF, if_neg b, if_neg k]
theorem orU_bd (m n : Int) : 0 ≤ orU m n ∧ orU m n < 18446744073709551616 := by
  unfold orU bitsOf
  dsimp only
  generalize (BitVec.ofInt IntKind.u64.bits m ||| BitVec.ofInt IntKind.u64.bits n) = b
  have hlt : b.toNat < 18446744073709551616 := b.isLt
  have e : IntKind.u64.wrap (b.toNat : Int) = (b.toNat : Int) := InK.u64 (by omega)
  rw [e]
  omega
theorem orU_nat {m n : Nat} (hm : m < 18446744073709551616) (hn : n < 18446744073709551616) : orU (m : Int) (n : Int) = ((m ||| n : Nat) : Int) := by
  unfold orU bitsOf
  dsimp only
  have h2 : IntKind.u64.bits = 64 := rfl
  have e : (BitVec.ofInt IntKind.u64.bits (m : Int) ||| BitVec.ofInt IntKind.u64.bits (n : Int)).toNat = m ||| n := by
    rw [BitVec.toNat_or, BitVec.toNat_ofInt, BitVec.toNat_ofInt, h2]
    congr 1 <;> omega
  rw [e]
  refine InK.u64 ?_
  have : m ||| n < 2 ^ 64 := Nat.or_lt_two_pow (by omega) (by omega)
  omega
theorem shlU_nat {m k : Nat} (h : m * 2 ^ k < 18446744073709551616) : shlU (m : Int) (k : Int) = ((m * 2 ^ k : Nat) : Int) := by
  unfold shlU
  have e : ((m : Int) * 2 ^ (k : Int).toNat) = ((m * 2 ^ k : Nat) : Int) := by
    rw [Int.toNat_natCast]; simp
  rw [e]
  exact InK.u64 (by omega)
/-- The tenth byte never does. -/
theorem or_high {u : Int} (hu : 0 ≤ u ∧ u < 18446744073709551616) : 4611686018427387904 < orU u (shlU 1 63) := by
  have h1 : shlU 1 63 = ((9223372036854775808 : Nat) : Int) := shlU_nat (m := 1) (k := 63) (by decide)
  obtain ⟨m, rfl⟩ : ∃ m : Nat, u = (m : Int) := ⟨u.toNat, by omega⟩
  rw [h1, orU_nat (by omega) (by decide)]
  have : 9223372036854775808 ≤ m ||| 9223372036854775808 := Nat.right_le_or
  omega
theorem or_nine {u i : Int} {c : UInt8} (hu : 0 ≤ u ∧ u < 18446744073709551616) : i = 9 → (c.toNat : Int) = 1 → 4611686018427387904 < orU u (shlU ((c &&& b8 127).toNat : Int) (7 * i)) := by
  rintro rfl hc
  have e : c = 1 := UInt8.toNat_inj.1 (by show c.toNat = 1; omega)
  subst e
  exact or_high hu
/-- The first n bytes. -/
def rawV (l : List UInt8) (n : Int) : List UInt8 := if n < 0 ∨ (l.length : Int) < n then [] else l.take n.toNat
def rawT (l : List UInt8) (n : Int) : List UInt8 := if n < 0 ∨ (l.length : Int) < n then [] else l.drop n.toNat
def rawE (l : List UInt8) (n : Int) (b : Bool) : Bool := if n < 0 ∨ (l.length : Int) < n then true else b
theorem raw_no {l : List UInt8} {n : Int} (h : n < 0 ∨ (l.length : Int) < n) (b : Bool) : rawV l n = [] ∧ rawT l n = [] ∧ rawE l n b = true := by unfold rawV rawT rawE; simp [h]
theorem raw_yes {l : List UInt8} {n : Int} (h : ¬ (n < 0 ∨ (l.length : Int) < n)) (b : Bool) : rawV l n = l.take n.toNat ∧ rawT l n = l.drop n.toNat ∧ rawE l n b = b := by unfold rawV rawT rawE; simp [h]
theorem raw_one {l : List UInt8} {i : Nat} (h : i < l.length) (b : Bool) : rawV (l.drop i) 1 = [l.getD i 0] ∧ rawT (l.drop i) 1 = l.drop (i + 1) ∧ rawE (l.drop i) 1 b = b := by
  obtain ⟨e1, e2, e3⟩ := raw_yes (l := l.drop i) (n := 1) (by rw [List.length_drop]; omega) b
  refine ⟨?_, ?_, e3⟩
  · rw [e1, drop_at h]; rfl
  · rw [e2, List.drop_drop]; rfl
theorem raw_end {l : List UInt8} {i : Nat} (h : ¬ i < l.length) (b : Bool) : rawV (l.drop i) 1 = [] ∧ rawT (l.drop i) 1 = [] ∧ rawE (l.drop i) 1 b = true := raw_no (by rw [List.length_drop]; omega) b
theorem rdF_len (l : List UInt8) : ∀ (i : Nat) (u : Int) (x : Int × List UInt8), rdF i u l = some x → x.2.length < l.length := by
  induction l with
  | nil => intro i u x h; simp [rdF] at h
  | cons c r ih =>
    intro i u x h
    rw [rdF] at h
    split at h
    · cases h
    split at h
    · split at h
      · cases h
      · cases h; simp
    · have := ih _ _ _ h; simp; omega
theorem numT_len (l : List UInt8) : (numT l).length ≤ l.length := by
  unfold numT
  cases h : rdF 0 0 l with
  | none => simp
  | some x => have := rdF_len l 0 0 x h; simp; omega
theorem numE_nil {l : List UInt8} {b : Bool} (hb : b = true → l = []) : numE l b = true → numT l = [] := by
  unfold numE numT
  cases h : rdF 0 0 l with
  | none => simp
  | some x =>
    dsimp only
    intro h2
    have := rdF_len l 0 0 x h
    rw [hb h2] at this
    simp at this
theorem numV_of {l : List UInt8} {b : Bool} (h : numE l b = true) (hb : b = true → l = []) : numV l = 0 := by
  unfold numE at h
  unfold numV
  cases h2 : rdF 0 0 l with
  | none => rfl
  | some x =>
    rw [h2] at h
    dsimp only at h
    have := rdF_len l 0 0 x h2
    rw [hb h] at this
    simp at this
theorem raw_nil : rawV [] 0 = [] ∧ rawT [] 0 = [] ∧ ∀ b, rawE [] 0 b = b := by
  refine ⟨?_, ?_, fun b => ?_⟩ <;> simp [rawV, rawT, rawE]
theorem rawT_len (l : List UInt8) (n : Int) : (rawT l n).length ≤ l.length := by unfold rawT; split <;> simp
theorem rawE_nil {l : List UInt8} {n : Int} {b : Bool} (hb : b = true → l = []) : rawE l n b = true → rawT l n = [] := by
  unfold rawE rawT
  split
  · simp
  · intro h; rw [hb h]; simp
def bytV (l : List UInt8) : List UInt8 := rawV (numT l) (numV l)
def bytT (l : List UInt8) : List UInt8 := rawT (numT l) (numV l)
def bytE (l : List UInt8) (b : Bool) : Bool := rawE (numT l) (numV l) (numE l b)
end Go.Oct
