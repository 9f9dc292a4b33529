/-
  The laws of chapter 13 whose plain side is that both tell the same.
  Numbers and bytes in a row of bytes: the plain functions. Nothing here speaks of a program; no conditions.
  The plain functions of entry: entries as bytes. Nothing here speaks of a program; no conditions.
  The contracts of entry.Is and of the document's.
  Filters: the plain functions. Nothing here speaks of a program; no conditions.
-/
import Derived.Test.YthjckklijlfghaaGak
import Derived.Test.YthjckklijlfghaaGad
import Derived.KernelRfl
import Derived.Test.YthjckklijlfghaaGah
set_option linter.unusedSimpArgs false
set_option linter.unusedVariables false
set_option linter.unusedVariables false
namespace Go.Dn
open Go.Vk
def kS : List UInt8 := [99, 110, 61, 97, 92, 44, 98, 32, 44, 32, 79, 32, 61, 32, 120, 32, 121]
def kL : List Ava := [⟨[99, 110], [97, 44, 98]⟩, ⟨[79], [120, 32, 121]⟩]
def kT : List UInt8 := [99, 110, 61, 97, 92, 44, 98, 44, 79, 61, 120, 32, 121]
theorem kParse : parseE kS = (kL, 0) := by decide +kernel
theorem kWgt : wgt kL = 11 := by decide +kernel
theorem parseE_len (s : List UInt8) : (parseE s).1.length ≤ 12 := by
  unfold parseE
  split
  · simp
  · split
    · simp
    · split
      · rename_i l _ h
        simp only [isE, Bool.and_eq_true, decide_eq_true_eq] at h
        dsimp only; omega
      · simp
theorem wgt_nil : wgt [] = 0 := rfl
theorem sameE_refl (l : List Ava) : sameE l l = true := decide_eq_true rfl
theorem underE_drop (l : List Ava) (k : Nat) (h : k ≤ l.length) : underE l (l.drop k) = true := by
  unfold underE
  rw [List.length_drop, show l.length - (l.length - k) = k by omega, sameE_refl]
  simp
theorem underE_refl (l : List Ava) : underE l l = true := underE_drop l 0 (Nat.zero_le _)
theorem underE_nil (l : List Ava) : underE l [] = true := by
  have := underE_drop l l.length (Nat.le_refl _)
  rwa [List.drop_length] at this
theorem underE_drop1 (l : List Ava) : underE l (l.drop 1) = true := by
  cases l with
  | nil => exact underE_refl []
  | cons a l => exact underE_drop (a :: l) 1 (by simp)
theorem kPrint : printE kL = kT := by decide +kernel
end Go.Dn
set_option linter.unusedVariables false
namespace Go.Proofs.Ythjckklijlfghaa
open Go.Vk
attribute [local irreducible] HT HX RegS RegA RegM OpP OpC AltT
attribute [local irreducible] Dn.tellR Dn.tellC Dn.tellE Dn.printR Dn.printC Dn.printE Dn.foldR Dn.foldE Dn.normE Dn.normA Dn.sameE Dn.underE Dn.parseE Dn.isE Dn.typB Dn.wgt
theorem wgt_of {l : List Dn.Ava} (h : ¬ 1000 < Dn.wgt l) : Dn.wgt l ≤ 1048576 := by omega
end Go.Proofs.Ythjckklijlfghaa
set_option linter.unusedVariables false
namespace Go.Oct
open Go.Vk
/-- A number: seven bits to a byte, the lowest first. -/
def numB (n : Nat) : List UInt8 := if h : n < 128 then [b8 (n : Int)] else (b8 (n : Int) ||| b8 128) :: numB (n / 128)
theorem numB_lt {n : Nat} (h : n < 128) : numB n = [b8 (n : Int)] := by rw [numB]; simp [h]
theorem numB_ge {n : Nat} (h : ¬ n < 128) : numB n = (b8 (n : Int) ||| b8 128) :: numB (n / 128) := by rw [numB]; simp [h]
theorem numB_len (k : Nat) : ∀ n : Nat, n < 128 ^ (k + 1) → 1 ≤ (numB n).length ∧ (numB n).length ≤ k + 1 := by
  induction k with
  | zero => intro n hn; rw [numB_lt (by omega)]; simp
  | succ k ih =>
    intro n hn
    by_cases h : n < 128
    · rw [numB_lt h]; simp
    · rw [numB_ge h]
      have := ih (n / 128) (by rw [Nat.div_lt_iff_lt_mul (by decide)]; calc n < 128 ^ (k + 1 + 1) := hn
            _ = 128 ^ (k + 1) * 128 := Nat.pow_succ ..)
      simp only [List.length_cons]
      omega
theorem numB_le {n : Nat} (h : n ≤ 4611686018427387904) : 1 ≤ (numB n).length ∧ (numB n).length ≤ 9 := numB_len 8 n (by omega)
def bytB (l : List UInt8) : List UInt8 := numB l.length ++ l
theorem b8_mod (n : Int) : b8 (n % 256) = b8 n := by
  unfold b8
  congr 1
  omega
theorem low7_tab : ∀ i : Fin 256, (b8 ((i.val : Int) % 128) ||| b8 128) = (b8 (i.val : Int) ||| b8 128) := by decide +kernel
theorem low7 (n : Nat) : (b8 ((n : Int) % 128) ||| b8 128) = (b8 (n : Int) ||| b8 128) := by
  have h := low7_tab ⟨n % 256, by omega⟩
  have e1 : (((n % 256 : Nat) : Int) % 128) = (n : Int) % 128 := by omega
  have e2 : b8 ((n % 256 : Nat) : Int) = b8 (n : Int) := by
    rw [show ((n % 256 : Nat) : Int) = (n : Int) % 256 by omega, b8_mod]
  simp only [e1, e2] at h
  exact h
theorem numB_snoc {n : Nat} (h : ¬ n < 128) (l : List UInt8) : l ++ [b8 (n : Int) ||| b8 128] ++ numB (n / 128) = l ++ numB n := by
  rw [numB_ge h]; simp
theorem numB_snoc7 {n : Nat} (h : ¬ n < 128) (l : List UInt8) : l ++ [b8 ((n : Int) % 128) ||| b8 128] ++ numB (n / 128) = l ++ numB n := by
  rw [low7, numB_snoc h]
theorem flat_snoc {α β : Type} [Inhabited α] {l : List α} {i : Nat} (f : α → List β) (h : i < l.length) : (l.take (i + 1)).flatMap f = (l.take i).flatMap f ++ f (l.getD i default) := by
  rw [List.take_succ_eq_append_getElem h, List.flatMap_append, List.getD_eq_getElem?_getD, List.getElem?_eq_getElem h]; simp
theorem flat_part {α β : Type} {l : List α} (f : α → List β) (i : Nat) : ((l.take i).flatMap f).length ≤ (l.flatMap f).length := by
  conv => rhs; rw [← List.take_append_drop i l, List.flatMap_append, List.length_append]
  omega
/-- A number read: what it is, what is left; i bytes were read, they say u. -/
def rdF (i : Nat) (u : Int) : List UInt8 → Option (Int × List UInt8)
  | [] => none
  | c :: r =>
    if 9 ≤ (i : Int) ∨ (0 < (i : Int) ∧ (c.toNat : Int) = 0) then none
    else if (c.toNat : Int) < 128 then (if 4611686018427387904 < orU u (shlU ((c &&& b8 127).toNat : Int) (7 * (i : Int))) then none else some (orU u (shlU ((c &&& b8 127).toNat : Int) (7 * (i : Int))), r))
    else rdF (i + 1) (orU u (shlU ((c &&& b8 127).toNat : Int) (7 * (i : Int)))) r
def numV (l : List UInt8) : Int := match rdF 0 0 l with | none => 0 | some x => x.1
def numT (l : List UInt8) : List UInt8 := match rdF 0 0 l with | none => [] | some x => x.2
def numE (l : List UInt8) (b : Bool) : Bool := match rdF 0 0 l with | none => true | some _ => b
theorem num_none {l : List UInt8} (h : rdF 0 0 l = none) (b : Bool) : numV l = 0 ∧ numT l = [] ∧ numE l b = true := by unfold numV numT numE; rw [h]; simp
theorem num_some {l : List UInt8} {x : Int × List UInt8} (h : rdF 0 0 l = some x) (b : Bool) : numV l = x.1 ∧ numT l = x.2 ∧ numE l b = b := by unfold numV numT numE; rw [h]; simp
theorem noneV {l : List UInt8} (h : rdF 0 0 l = none) : 0 = numV l := (num_none h true).1.symm
theorem noneT {l : List UInt8} (h : rdF 0 0 l = none) : [] = numT l := (num_none h true).2.1.symm
theorem noneE {l : List UInt8} (h : rdF 0 0 l = none) {b : Bool} : true = numE l b := (num_none h b).2.2.symm
theorem someV {l : List UInt8} {u : Int} {r : List UInt8} (h : rdF 0 0 l = some (u, r)) : u = numV l := (num_some h true).1.symm
theorem someT {l : List UInt8} {u : Int} {r r' : List UInt8} (h : rdF 0 0 l = some (u, r)) (e : r' = r) : r' = numT l := e.trans (num_some h true).2.1.symm
theorem someE {l : List UInt8} {u : Int} {r : List UInt8} (h : rdF 0 0 l = some (u, r)) {b : Bool} : b = numE l b := (num_some h b).2.2.symm
theorem drop_at {l : List UInt8} {i : Nat} (h : i < l.length) : l.drop i = l.getD i 0 :: l.drop (i + 1) := by
  rw [List.drop_eq_getElem_cons h]; simp [List.getD, h]
theorem rd_end {l : List UInt8} {i : Nat} {u : Int} (h : ¬ i < l.length) : rdF i u (l.drop i) = none := by
  rw [List.drop_of_length_le (by omega)]; rfl
theorem rd_bad {l : List UInt8} {i : Nat} {u : Int} (h : i < l.length) (k : 9 ≤ (i : Int) ∨ (0 < (i : Int) ∧ ((l.getD i 0).toNat : Int) = 0)) : rdF i u (l.drop i) = none := by
  rw [drop_at h, rdF, if_pos k]
theorem rd_great {l : List UInt8} {i : Nat} {u : Int} (h : i < l.length) (k : ((l.getD i 0).toNat : Int) < 128) (g : 4611686018427387904 < orU u (shlU ((l.getD i 0 &&& b8 127).toNat : Int) (7 * (i : Int)))) : rdF i u (l.drop i) = none := by
  rw [drop_at h, rdF, if_pos k, if_pos g]; simp
theorem rd_good {l : List UInt8} {i : Nat} {u : Int} (h : i < l.length) (b : ¬ (9 ≤ (i : Int) ∨ (0 < (i : Int) ∧ ((l.getD i 0).toNat : Int) = 0))) (k : ((l.getD i 0).toNat : Int) < 128) (g : ¬ 4611686018427387904 < orU u (shlU ((l.getD i 0 &&& b8 127).toNat : Int) (7 * (i : Int)))) : rdF i u (l.drop i) = some (orU u (shlU ((l.getD i 0 &&& b8 127).toNat : Int) (7 * (i : Int))), l.drop (i + 1)) := by
  rw [drop_at h, rdF, if_neg b, if_pos k, if_neg g]
theorem rd_no {l : List UInt8} {i : Nat} {u : Int} (h : i < l.length) (k : (9 ≤ (i : Int) ∨ (0 < (i : Int) ∧ ((l.getD i 0).toNat : Int) = 0)) ∨ ((l.getD i 0).toNat : Int) < 128 ∧ 4611686018427387904 < orU u (shlU ((l.getD i 0 &&& b8 127).toNat : Int) (7 * (i : Int)))) : rdF i u (l.drop i) = none := by
  rcases k with k | ⟨k, g⟩
  · exact rd_bad h k
  · exact rd_great h k g
theorem rd_next {l : List UInt8} {i : Nat} {u : Int} (h : i < l.length) (b : ¬ (9 ≤ (i : Int) ∨ (0 < (i : Int) ∧ ((l.getD i 0).toNat : Int) = 0))) (k : ¬ ((l.getD i 0).toNat : Int) < 128) : rdF i u (l.drop i) = rdF (i + 1) (orU u (shlU ((l.getD i 0 &&& b8 127).toNat : Int) (7 * (i : Int)))) (l.drop (i + 1)) := by
  rw [drop_at h, rdF, if_neg b, if_neg k]
theorem orU_bd (m n : Int) : 0 ≤ orU m n ∧ orU m n < 18446744073709551616 := by
  unfold orU bitsOf
  dsimp only
  generalize (BitVec.ofInt IntKind.u64.bits m ||| BitVec.ofInt IntKind.u64.bits n) = b
  have hlt : b.toNat < 18446744073709551616 := b.isLt
  have e : IntKind.u64.wrap (b.toNat : Int) = (b.toNat : Int) := InK.u64 (by omega)
  rw [e]
  omega
theorem orU_nat {m n : Nat} (hm : m < 18446744073709551616) (hn : n < 18446744073709551616) : orU (m : Int) (n : Int) = ((m ||| n : Nat) : Int) := by
  unfold orU bitsOf
  dsimp only
  have h2 : IntKind.u64.bits = 64 := rfl
  have e : (BitVec.ofInt IntKind.u64.bits (m : Int) ||| BitVec.ofInt IntKind.u64.bits (n : Int)).toNat = m ||| n := by
    rw [BitVec.toNat_or, BitVec.toNat_ofInt, BitVec.toNat_ofInt, h2]
    congr 1 <;> omega
  rw [e]
  refine InK.u64 ?_
  have : m ||| n < 2 ^ 64 := Nat.or_lt_two_pow (by omega) (by omega)
  omega
theorem shlU_nat {m k : Nat} (h : m * 2 ^ k < 18446744073709551616) : shlU (m : Int) (k : Int) = ((m * 2 ^ k : Nat) : Int) := by
  unfold shlU
  have e : ((m : Int) * 2 ^ (k : Int).toNat) = ((m * 2 ^ k : Nat) : Int) := by
    rw [Int.toNat_natCast]; simp
  rw [e]
  exact InK.u64 (by omega)
/-- The tenth byte never does. -/
theorem or_high {u : Int} (hu : 0 ≤ u ∧ u < 18446744073709551616) : 4611686018427387904 < orU u (shlU 1 63) := by
  have h1 : shlU 1 63 = ((9223372036854775808 : Nat) : Int) := shlU_nat (m := 1) (k := 63) (by decide)
  obtain ⟨m, rfl⟩ : ∃ m : Nat, u = (m : Int) := ⟨u.toNat, by omega⟩
  rw [h1, orU_nat (by omega) (by decide)]
  have : 9223372036854775808 ≤ m ||| 9223372036854775808 := Nat.right_le_or
  omega
theorem or_nine {u i : Int} {c : UInt8} (hu : 0 ≤ u ∧ u < 18446744073709551616) : i = 9 → (c.toNat : Int) = 1 → 4611686018427387904 < orU u (shlU ((c &&& b8 127).toNat : Int) (7 * i)) := by
  rintro rfl hc
  have e : c = 1 := UInt8.toNat_inj.1 (by show c.toNat = 1; omega)
  subst e
  exact or_high hu
/-- The first n bytes. -/
def rawV (l : List UInt8) (n : Int) : List UInt8 := if n < 0 ∨ (l.length : Int) < n then [] else l.take n.toNat
def rawT (l : List UInt8) (n : Int) : List UInt8 := if n < 0 ∨ (l.length : Int) < n then [] else l.drop n.toNat
def rawE (l : List UInt8) (n : Int) (b : Bool) : Bool := if n < 0 ∨ (l.length : Int) < n then true else b
theorem raw_no {l : List UInt8} {n : Int} (h : n < 0 ∨ (l.length : Int) < n) (b : Bool) : rawV l n = [] ∧ rawT l n = [] ∧ rawE l n b = true := by unfold rawV rawT rawE; simp [h]
theorem raw_yes {l : List UInt8} {n : Int} (h : ¬ (n < 0 ∨ (l.length : Int) < n)) (b : Bool) : rawV l n = l.take n.toNat ∧ rawT l n = l.drop n.toNat ∧ rawE l n b = b := by unfold rawV rawT rawE; simp [h]
theorem raw_one {l : List UInt8} {i : Nat} (h : i < l.length) (b : Bool) : rawV (l.drop i) 1 = [l.getD i 0] ∧ rawT (l.drop i) 1 = l.drop (i + 1) ∧ rawE (l.drop i) 1 b = b := by
  obtain ⟨e1, e2, e3⟩ := raw_yes (l := l.drop i) (n := 1) (by rw [List.length_drop]; omega) b
  refine ⟨?_, ?_, e3⟩
  · rw [e1, drop_at h]; rfl
  · rw [e2, List.drop_drop]; rfl
theorem raw_end {l : List UInt8} {i : Nat} (h : ¬ i < l.length) (b : Bool) : rawV (l.drop i) 1 = [] ∧ rawT (l.drop i) 1 = [] ∧ rawE (l.drop i) 1 b = true := raw_no (by rw [List.length_drop]; omega) b
theorem rdF_len (l : List UInt8) : ∀ (i : Nat) (u : Int) (x : Int × List UInt8), rdF i u l = some x → x.2.length < l.length := by
  induction l with
  | nil => intro i u x h; simp [rdF] at h
  | cons c r ih =>
    intro i u x h
    rw [rdF] at h
    split at h
    · cases h
    split at h
    · split at h
      · cases h
      · cases h; simp
    · have := ih _ _ _ h; simp; omega
theorem numT_len (l : List UInt8) : (numT l).length ≤ l.length := by
  unfold numT
  cases h : rdF 0 0 l with
  | none => simp
  | some x => have := rdF_len l 0 0 x h; simp; omega
theorem numE_nil {l : List UInt8} {b : Bool} (hb : b = true → l = []) : numE l b = true → numT l = [] := by
  unfold numE numT
  cases h : rdF 0 0 l with
  | none => simp
  | some x =>
    dsimp only
    intro h2
    have := rdF_len l 0 0 x h
    rw [hb h2] at this
    simp at this
theorem numV_of {l : List UInt8} {b : Bool} (h : numE l b = true) (hb : b = true → l = []) : numV l = 0 := by
  unfold numE at h
  unfold numV
  cases h2 : rdF 0 0 l with
  | none => rfl
  | some x =>
    rw [h2] at h
    dsimp only at h
    have := rdF_len l 0 0 x h2
    rw [hb h] at this
    simp at this
theorem raw_nil : rawV [] 0 = [] ∧ rawT [] 0 = [] ∧ ∀ b, rawE [] 0 b = b := by
  refine ⟨?_, ?_, fun b => ?_⟩ <;> simp [rawV, rawT, rawE]
theorem rawT_len (l : List UInt8) (n : Int) : (rawT l n).length ≤ l.length := by unfold rawT; split <;> simp
theorem rawE_nil {l : List UInt8} {n : Int} {b : Bool} (hb : b = true → l = []) : rawE l n b = true → rawT l n = [] := by
  unfold rawE rawT
  split
  · simp
  · intro h; rw [hb h]; simp
def bytV (l : List UInt8) : List UInt8 := rawV (numT l) (numV l)
def bytT (l : List UInt8) : List UInt8 := rawT (numT l) (numV l)
def bytE (l : List UInt8) (b : Bool) : Bool := rawE (numT l) (numV l) (numE l b)
end Go.Oct
set_option linter.unusedVariables false
namespace Go.En
open Go.Vk Go.Oct
open Go.Dn (Ava cAva typB isE okA)
/-- An attribute; an entry. -/
structure Attr where
  typ : List UInt8
  vals : List (List UInt8)
instance : Inhabited Attr := ⟨⟨[], []⟩⟩
abbrev cS (s : List UInt8) : List Ty := [Is (str s)]
def cAttr (a : Attr) : List Ty := [Is (str a.typ), TSl 1 cS a.vals]
structure Entry where
  dn : List Ava
  attrs : List Attr
def cEnt (e : Entry) : List Ty := [TSl 2 cAva e.dn, TSl 2 cAttr e.attrs]
def okV (v : List UInt8) : Bool := decide ((v.length : Int) ≤ 256)
def okT (a : Attr) : Bool := typB a.typ && decide (1 ≤ (a.vals.length : Int)) && decide ((a.vals.length : Int) ≤ 16) && a.vals.all okV
def isN (e : Entry) : Bool := isE e.dn && decide ((e.attrs.length : Int) ≤ 16) && e.attrs.all okT
def avaB (a : Ava) : List UInt8 := bytB a.typ ++ bytB a.val
def attrB (a : Attr) : List UInt8 := bytB a.typ ++ numB a.vals.length ++ a.vals.flatMap bytB
def encB (e : Entry) : List UInt8 := numB e.dn.length ++ e.dn.flatMap avaB ++ numB e.attrs.length ++ e.attrs.flatMap attrB
/-! ### lists -/
section
variable {α : Type}
theorem getD_mem [Inhabited α] {l : List α} {i : Nat} (h : i < l.length) : l.getD i default ∈ l := by
  rw [List.getD_eq_getElem?_getD, List.getElem?_eq_getElem h]; exact List.getElem_mem h
theorem flat_snoc [Inhabited α] {β : Type} {l : List α} {i : Nat} (f : α → List β) (h : i < l.length) : (l.take (i + 1)).flatMap f = (l.take i).flatMap f ++ f (l.getD i default) := by
  rw [List.take_succ_eq_append_getElem h, List.flatMap_append, List.getD_eq_getElem?_getD, List.getElem?_eq_getElem h]; simp
theorem flat_end {β : Type} {l : List α} {i : Nat} (f : α → List β) (h : ¬ i < l.length) : (l.take i).flatMap f = l.flatMap f := by
  rw [List.take_of_length_le (by omega)]
theorem flat_len {β : Type} {l : List α} {f : α → List β} {k : Nat} (h : ∀ a ∈ l, (f a).length ≤ k) : (l.flatMap f).length ≤ l.length * k := by
  induction l with
  | nil => simp
  | cons a l ih =>
    have h1 := h a (by simp)
    have h2 := ih (fun b hb => h b (by simp [hb]))
    rw [List.flatMap_cons, List.length_append, List.length_cons, Nat.succ_mul]
    omega
theorem flat_take {β : Type} {l : List α} {f : α → List β} {k n : Nat} (h : ∀ a ∈ l, (f a).length ≤ k) (hn : l.length ≤ n) (i : Nat) : ((l.take i).flatMap f).length ≤ n * k := by
  refine Nat.le_trans (flat_len (k := k) fun a ha => h a (List.mem_of_mem_take ha)) (Nat.mul_le_mul_right k ?_)
  rw [List.length_take]; omega
theorem all_snoc [Inhabited α] {p : α → Bool} {l : List α} {i : Nat} (h : i < l.length) (h1 : (l.take i).all p = true) (h2 : p (l.getD i default) = true) : (l.take (i + 1)).all p = true := by
  rw [List.take_succ_eq_append_getElem h, List.all_append, h1]
  rw [List.getD_eq_getElem?_getD, List.getElem?_eq_getElem h] at h2
  simpa using h2
theorem all_no [Inhabited α] {p : α → Bool} {l : List α} {i : Nat} (h : i < l.length) (h1 : p (l.getD i default) = false) : l.all p = false := by
  rw [List.all_eq_false]; exact ⟨_, getD_mem h, by rw [h1]; simp⟩
def ixOf (p : α → Bool) (l : List α) : Int := if l.any p = true then (l.findIdx p : Int) else -1
theorem any_snoc [Inhabited α] {p : α → Bool} {l : List α} {i : Nat} (h : i < l.length) (h1 : (l.take i).any p = false) (h2 : p (l.getD i default) = false) : (l.take (i + 1)).any p = false := by
  rw [List.take_succ_eq_append_getElem h, List.any_append, h1]
  rw [List.getD_eq_getElem?_getD, List.getElem?_eq_getElem h] at h2
  simpa using h2
theorem ixOf_none {p : α → Bool} {l : List α} (h : l.any p = false) : ixOf p l = -1 := by unfold ixOf; rw [h]; rfl
theorem ixOf_at [Inhabited α] {p : α → Bool} {l : List α} {i : Nat} (h : i < l.length) (h1 : (l.take i).any p = false) (h2 : p (l.getD i default) = true) : ixOf p l = i := by
  have h3 : p l[i] = true := by rw [List.getD_eq_getElem?_getD, List.getElem?_eq_getElem h] at h2; exact h2
  have h4 : l.any p = true := List.any_eq_true.2 ⟨l[i], List.getElem_mem h, h3⟩
  unfold ixOf
  rw [if_pos h4]
  congr 1
  rw [List.findIdx_eq h]
  refine ⟨h3, fun j hj => ?_⟩
  rw [List.any_eq_false] at h1
  have := h1 (l[j]) (List.mem_take_iff_getElem.2 ⟨j, by omega, rfl⟩)
  simpa using this
theorem ixOf_nonneg {p : α → Bool} {l : List α} : decide (0 ≤ ixOf p l) = l.any p := by
  unfold ixOf
  cases h : l.any p
  · rfl
  · simp
end
section
variable {α : Type} [Inhabited α]
theorem take_ext {l m : List α} {i : Nat} (h : i < l.length) (hc : l.length = m.length) (he : l.take i = m.take i) (h2 : l.getD i default = m.getD i default) : l.take (i + 1) = m.take (i + 1) := by
  have h' : i < m.length := by omega
  rw [List.getD_eq_getElem?_getD, List.getElem?_eq_getElem h, List.getD_eq_getElem?_getD, List.getElem?_eq_getElem h'] at h2
  have h3 : l[i] = m[i] := h2
  rw [List.take_succ_eq_append_getElem h, List.take_succ_eq_append_getElem h', he, h3]
end
theorem take_all {α : Type} {l m : List α} {i : Nat} (h : ¬ (i : Int) < (l.length : Int)) (hc : l.length = m.length) (he : l.take i = m.take i) : l = m := by
  rwa [List.take_of_length_le (by omega), List.take_of_length_le (by omega)] at he
theorem Attr.ext' {a b : Attr} (h1 : a.typ = b.typ) (h2 : a.vals = b.vals) : a = b := by cases a; cases b; simp at h1 h2; rw [h1, h2]
instance : DecidableEq Attr := fun a b => decidable_of_iff (a.typ = b.typ ∧ a.vals = b.vals) ⟨fun h => Attr.ext' h.1 h.2, fun h => by rw [h]; exact ⟨rfl, rfl⟩⟩
theorem Entry.ext' {a b : Entry} (h1 : a.dn = b.dn) (h2 : a.attrs = b.attrs) : a = b := by cases a; cases b; simp at h1 h2; rw [h1, h2]
instance : DecidableEq Entry := fun a b => decidable_of_iff (a.dn = b.dn ∧ a.attrs = b.attrs) ⟨fun h => Entry.ext' h.1 h.2, fun h => by rw [h]; exact ⟨rfl, rfl⟩⟩
theorem okT_any (a : Attr) : okT a = (typB a.typ && decide (1 ≤ (a.vals.length : Int)) && decide ((a.vals.length : Int) ≤ 16) && !a.vals.any (fun v => decide (256 < (v.length : Int)))) := by
  unfold okT
  rw [List.not_any_eq_all_not]
  congr 2
  funext v
  unfold okV
  by_cases h : (v.length : Int) ≤ 256
  · have : ¬ 256 < (v.length : Int) := by omega
    simp [h, this]
  · have : 256 < (v.length : Int) := by omega
    simp [h, this]
theorem isN_any (e : Entry) : isN e = (isE e.dn && decide ((e.attrs.length : Int) ≤ 16) && !e.attrs.any (fun a => !okT a)) := by
  unfold isN
  rw [List.not_any_eq_all_not]
  simp
theorem isN_no1 {e : Entry} (h : isE e.dn = false ∨ 16 < (e.attrs.length : Int)) : isN e = false := by
  unfold isN
  rcases h with h | h
  · rw [h]; simp
  · rw [decide_eq_false (p := (e.attrs.length : Int) ≤ 16) (by omega)]; simp
theorem isN_yes {e : Entry} (h1 : isE e.dn = true) (h2 : ¬ 16 < (e.attrs.length : Int)) (h3 : e.attrs.all okT = true) : isN e = true := by
  unfold isN
  rw [h1, h3, decide_eq_true (p := (e.attrs.length : Int) ≤ 16) (by omega)]; rfl
theorem isN_no2 {e : Entry} {i : Nat} (h : i < e.attrs.length) (h1 : okT (e.attrs.getD i default) = false) : isN e = false := by
  unfold isN
  rw [all_no h h1]; simp
theorem okT_no1 {a : Attr} (h : (typB a.typ = false ∨ (a.vals.length : Int) < 1) ∨ 16 < (a.vals.length : Int)) : okT a = false := by
  unfold okT
  rcases h with (h | h) | h
  · rw [h]; simp
  · rw [decide_eq_false (p := 1 ≤ (a.vals.length : Int)) (by omega)]; simp
  · rw [decide_eq_false (p := (a.vals.length : Int) ≤ 16) (by omega)]; simp
theorem okT_no2 {a : Attr} {i : Nat} (h : i < a.vals.length) (h1 : 256 < ((a.vals.getD i default).length : Int)) : okT a = false := by
  unfold okT
  rw [all_no (p := okV) h (decide_eq_false (by omega))]; simp
theorem okT_yes {a : Attr} (h1 : (typB a.typ = true ∧ ¬ (a.vals.length : Int) < 1) ∧ ¬ 16 < (a.vals.length : Int)) (h2 : a.vals.all okV = true) : okT a = true := by
  unfold okT
  rw [h1.1.1, h2, decide_eq_true (p := 1 ≤ (a.vals.length : Int)) (by omega), decide_eq_true (p := (a.vals.length : Int) ≤ 16) (by omega)]; rfl
theorem okV_yes {v : List UInt8} (h : ¬ 256 < (v.length : Int)) : okV v = true := decide_eq_true (by omega)
theorem ava_snoc {l : List Ava} {i : Nat} (h : i < l.length) : (l.take (i + 1)).flatMap avaB = (l.take i).flatMap avaB ++ (bytB (l.getD i default).typ ++ bytB (l.getD i default).val) := flat_snoc avaB h
theorem attr_snoc {l : List Attr} {i : Nat} (h : i < l.length) : (l.take (i + 1)).flatMap attrB = (l.take i).flatMap attrB ++ (bytB (l.getD i default).typ ++ numB (l.getD i default).vals.length ++ (l.getD i default).vals.flatMap bytB) := flat_snoc attrB h
/-- Nothing is too long to be walked through. -/
def sane (e : Entry) : Prop := e.dn.length ≤ 1152921504606846976 ∧ (∀ a ∈ e.dn, a.typ.length ≤ 1152921504606846976) ∧ e.attrs.length ≤ 1152921504606846976 ∧ ∀ a ∈ e.attrs, a.typ.length ≤ 1152921504606846976 ∧ a.vals.length ≤ 1152921504606846976
theorem bytB_len {l : List UInt8} {k : Nat} (h : l.length ≤ k) (hk : k ≤ 1000000) : (bytB l).length ≤ 9 + k := by
  have := numB_le (n := l.length) (by omega)
  unfold bytB
  rw [List.length_append]; omega
theorem typ_len {t : List UInt8} (h : typB t = true) : t.length ≤ 32 := by
  have := (Dn.typB_iff t).1 h
  omega
theorem okA_bd {a : Ava} (h : okA a = true) : a.typ.length ≤ 32 ∧ a.val.length ≤ 64 := by
  unfold okA at h
  simp only [Bool.and_eq_true, decide_eq_true_eq] at h
  exact ⟨typ_len h.1.1, by omega⟩
theorem okT_bd {a : Attr} (h : okT a = true) : a.typ.length ≤ 32 ∧ a.vals.length ≤ 16 ∧ ∀ v ∈ a.vals, v.length ≤ 256 := by
  unfold okT at h
  simp only [Bool.and_eq_true, decide_eq_true_eq, List.all_eq_true] at h
  refine ⟨typ_len h.1.1.1, by omega, fun v hv => ?_⟩
  have := h.2 v hv
  unfold okV at this
  simp only [decide_eq_true_eq] at this
  omega
theorem isN_bd {e : Entry} (h : isN e = true) : e.dn.length ≤ 12 ∧ (∀ a ∈ e.dn, a.typ.length ≤ 32 ∧ a.val.length ≤ 64) ∧ e.attrs.length ≤ 16 ∧ ∀ a ∈ e.attrs, a.typ.length ≤ 32 ∧ a.vals.length ≤ 16 ∧ ∀ v ∈ a.vals, v.length ≤ 256 := by
  unfold isN isE at h
  simp only [Bool.and_eq_true, decide_eq_true_eq, List.all_eq_true] at h
  exact ⟨by omega, fun a ha => okA_bd (h.1.1.2 a ha), by omega, fun a ha => okT_bd (h.2 a ha)⟩
theorem avaB_len {a : Ava} (h : a.typ.length ≤ 32 ∧ a.val.length ≤ 64) : (avaB a).length ≤ 200 := by
  have h1 := bytB_len (l := a.typ) (k := 32) h.1 (by omega)
  have h2 := bytB_len (l := a.val) (k := 64) h.2 (by omega)
  unfold avaB
  rw [List.length_append]; omega
theorem attrB_len {a : Attr} (h : a.typ.length ≤ 32 ∧ a.vals.length ≤ 16 ∧ ∀ v ∈ a.vals, v.length ≤ 256) : (attrB a).length ≤ 5000 := by
  have h1 := bytB_len (l := a.typ) (k := 32) h.1 (by omega)
  have h2 := flat_len (l := a.vals) (f := bytB) (k := 265) (fun v hv => bytB_len (k := 256) (h.2.2 v hv) (by omega))
  have h3 := numB_le (n := a.vals.length) (by omega)
  have h4 : a.vals.length * 265 ≤ 16 * 265 := Nat.mul_le_mul_right _ h.2.1
  unfold attrB
  rw [List.length_append, List.length_append]; omega
end Go.En
set_option linter.unusedVariables false
namespace Go.Proofs.Ythjckklijlfghaa
open Go.Vk
attribute [local irreducible] HT HX RegS RegA RegM OpP OpC AltT
attribute [local irreducible] Dn.typB Dn.isE Dn.okA
theorem ixTxt {f : FuncId} {Cs : List Ty} (l : List (List UInt8)) (p : List UInt8 → Bool) (hl : l.length ≤ 1152921504606846976) (cf : ∀ a ∈ l, CFn Try.prog f ([Is (str a)] ++ Cs) (Is (.bool (p a)))) : CFn Try.prog 70 [TSl 1 En.cS l, TFn f Cs] (okI .i64 (En.ixOf p l)) := by
  refine CallsC.of Try.call70 Try.func70 rfl Try.ntmps70 rfl fun w0 G0 S0 hs ho => ?_
  refine run ?_
  refine HT.loopX (σ := Nat) [0, 1, 7] (fun i => [(8, okI .i64 (i : Int))]) (fun i => []) (fun i => i ≤ l.length ∧ (l.take i).any p = false) (fun i => l.length - i) 0 ⟨by omega, by simp⟩ (run trivial) (run trivial) ?_
  rintro i ⟨hi, hp⟩
  have cf' := fun (hlt : i < l.length) => cf (l.getD i default) (En.getD_mem hlt)
  clear cf
  refine run ?_
  refine ⟨fun h1 h2 => ?_, fun h1 h2 => ?_, fun h1 => ?_⟩
  · exact (En.ixOf_at (by omega) hp h2).symm
  · exact HX.roundX (i + 1) ⟨⟨by omega, En.any_snoc (by omega) hp h2⟩, by omega⟩ rfl (run trivial) (run trivial)
  · exact (En.ixOf_none (by rwa [List.take_of_length_le (by omega)] at hp)).symm
theorem anyTxt {f : FuncId} {Cs : List Ty} (l : List (List UInt8)) (p : List UInt8 → Bool) (hl : l.length ≤ 1152921504606846976) (cf : ∀ a ∈ l, CFn Try.prog f ([Is (str a)] ++ Cs) (Is (.bool (p a)))) : CFn Try.prog 59 [TSl 1 En.cS l, TFn f Cs] (Is (.bool (l.any p))) := by
  have c1 := ixTxt l p hl cf
  refine CallsC.of Try.call59 Try.func59 rfl Try.ntmps59 rfl fun w0 G0 S0 hs ho => ?_
  refine run ?_
  exact En.ixOf_nonneg
end Go.Proofs.Ythjckklijlfghaa
set_option linter.unusedVariables false
namespace Go.Fi
open Go.Vk
open Go.Dn (typB typC halfV)
/-- A filter. -/
inductive Fil where
  | mk (kind : Int) (typ val : List UInt8) (subs : List (List UInt8)) (kids : List Fil)
namespace Fil
def kind : Fil → Int | mk k _ _ _ _ => k
def typ : Fil → List UInt8 | mk _ t _ _ _ => t
def val : Fil → List UInt8 | mk _ _ v _ _ => v
def subs : Fil → List (List UInt8) | mk _ _ _ s _ => s
def kids : Fil → List Fil | mk _ _ _ _ ks => ks
end Fil
def zeroF : Fil := .mk 0 [] [] [] []
instance : Inhabited Fil := ⟨zeroF⟩
abbrev cS (s : List UInt8) : List Ty := [Is (str s)]
mutual
def cFil : Fil → List Ty
  | .mk k t v s ks => [okI .i64 k, Is (str t), Is (str v), TSl 1 cS s, TSl 5 (fun ts : List Ty => ts) (cFils ks)]
def cFils : List Fil → List (List Ty)
  | [] => []
  | f :: r => cFil f :: cFils r
end
def cF (f : Fil) : List Ty := [okI .i64 f.kind, Is (str f.typ), Is (str f.val), TSl 1 cS f.subs, TSl 5 cFil f.kids]
theorem cFils_map : ∀ l : List Fil, cFils l = l.map cFil
  | [] => rfl
  | f :: r => by rw [cFils, cFils_map r]; rfl
theorem Ty.ext' {T U : Ty} (h : ∀ G v, T.p G v ↔ U.p G v) : T = U := by
  obtain ⟨p, hp⟩ := T
  obtain ⟨q, hq⟩ := U
  have : p = q := by funext G v; exact propext (h G v)
  subst this; rfl
theorem tslMap {α : Type} (sz : Nat) (f : α → List Ty) (l : List α) : TSl sz (fun ts : List Ty => ts) (l.map f) = TSl sz f l :=
  Ty.ext' fun G v => ⟨SlP.map rfl, SlP.unmap⟩
theorem cF_eq : cFil = cF := by
  funext f
  cases f with
  | mk k t v s ks =>
    rw [cFil, cFils_map, tslMap]
    rfl
theorem cF_open (f : Fil) : TAgg (cF f) = TAgg [okI .i64 f.kind, Is (str f.typ), Is (str f.val), TSl 1 cS f.subs, TSl 5 cF f.kids] := by
  conv => lhs; unfold cF
  rw [cF_eq]
/-! ### how many, how heavy -/
mutual
def nodes : Fil → Nat
  | .mk _ _ _ _ ks => 1 + nodesL ks
def nodesL : List Fil → Nat
  | [] => 0
  | f :: r => nodes f + nodesL r
end
def subsW : List (List UInt8) → Nat
  | [] => 0
  | s :: r => 1 + s.length + subsW r
mutual
/-- How much a filter weighs. -/
def wt : Fil → Nat
  | .mk _ t v s ks => 5 + t.length + v.length + subsW s + wtL ks
def wtL : List Fil → Nat
  | [] => 0
  | f :: r => wt f + wtL r
end
/-! ### whether two are one -/
mutual
def sameF : Fil → Fil → Bool
  | .mk k t v s ks, .mk k' t' v' s' ks' => decide (k = k') && decide (t = t') && decide (v = v') && decide (s = s') && sameL ks ks'
def sameL : List Fil → List Fil → Bool
  | [], [] => true
  | f :: r, g :: q => sameF f g && sameL r q
  | _, _ => false
end
mutual
theorem sameF_iff : ∀ f g : Fil, sameF f g = true ↔ f = g
  | .mk k t v s ks, .mk k' t' v' s' ks' => by
    unfold sameF
    simp only [Bool.and_eq_true, decide_eq_true_eq, sameL_iff ks ks', Fil.mk.injEq]
    constructor
    · rintro ⟨⟨⟨⟨h1, h2⟩, h3⟩, h4⟩, h5⟩; exact ⟨h1, h2, h3, h4, h5⟩
    · rintro ⟨h1, h2, h3, h4, h5⟩; exact ⟨⟨⟨⟨h1, h2⟩, h3⟩, h4⟩, h5⟩
theorem sameL_iff : ∀ l m : List Fil, sameL l m = true ↔ l = m
  | [], [] => by simp [sameL]
  | f :: r, g :: q => by
    unfold sameL
    simp only [Bool.and_eq_true, sameF_iff f g, sameL_iff r q, List.cons.injEq]
  | [], g :: q => by simp [sameL]
  | f :: r, [] => by simp [sameL]
end
/-! ### whether one may be -/
def okS (s : List UInt8) : Bool := decide ((s.length : Int) ≤ 256)
/-- Whether pieces may be. -/
def subsB (l : List (List UInt8)) : Bool := decide (2 ≤ l.length) && decide (l.length ≤ 16) && l.all okS && (l.drop 1).dropLast.all (fun s => !decide (s = [])) && l.any (fun s => !decide (s = []))
mutual
/-- Whether a filter may be, so deep. -/
def oneF : Fil → Nat → Bool
  | .mk k t v s ks, deep => decide (deep ≤ 16) &&
    (if k = 0 ∨ k = 1 ∨ k = 2 then decide (t = []) && decide (v = []) && decide (s = []) && decide (ks ≠ []) && (decide (k ≠ 2) || decide (ks.length ≤ 1)) && oneL ks (deep + 1)
     else if k = 3 ∨ k = 5 ∨ k = 6 then decide (ks = []) && decide (s = []) && typB t && okS v
     else if k = 4 then decide (ks = []) && decide (v = []) && typB t && subsB s
     else if k = 7 then decide (ks = []) && decide (v = []) && decide (s = []) && typB t
     else false)
def oneL : List Fil → Nat → Bool
  | [], _ => true
  | f :: r, deep => oneF f deep && oneL r deep
end
def isF (f : Fil) : Bool := oneF f 1 && decide (nodes f ≤ 64)
/-- What is asked of a filter apart from its kids: none of them is looked at unless this holds. -/
def mayH : Fil → Bool
  | .mk k t v s ks =>
    if k = 0 ∨ k = 1 ∨ k = 2 then decide (t = []) && decide (v = []) && decide (s = []) && (decide (ks ≠ []) && (decide (k ≠ 2) || decide (ks.length = 1)))
    else if k = 3 ∨ k = 5 ∨ k = 6 then typB t && okS v && decide (s = []) && decide (ks = [])
    else if k = 4 then typB t && decide (v = []) && subsB s && decide (ks = [])
    else if k = 7 then typB t && decide (v = []) && decide (s = []) && decide (ks = [])
    else false
mutual
/-- The same, as it is counted: whether; how many are left. -/
def mayF : Fil → Nat → Int → Bool × Int
  | .mk k t v s ks, deep, left =>
    if left - 1 < 0 ∨ 16 ≤ deep then (false, left - 1)
    else if mayH (.mk k t v s ks) = true then mayL ks (deep + 1) (left - 1) else (false, left - 1)
def mayL : List Fil → Nat → Int → Bool × Int
  | [], _, left => (true, left)
  | f :: r, deep, left => if (mayF f deep left).1 = true then mayL r deep (mayF f deep left).2 else (false, (mayF f deep left).2)
end
/-! ### as a text -/
def hexC (n : Nat) : UInt8 := if n < 10 then UInt8.ofNat (48 + n) else UInt8.ofNat (87 + n)
def barC (c : UInt8) : Bool := decide ((c.toNat : Int) < 32) || decide (126 < (c.toNat : Int)) || decide (c = 42) || decide (c = 40) || decide (c = 41) || decide (c = 92)
def toldC (c : UInt8) : List UInt8 := if barC c = true then [92, hexC (c.toNat / 16), hexC (c.toNat % 16)] else [c]
def told (s : List UInt8) : List UInt8 := s.flatMap toldC
def joinB : List (List UInt8) → List UInt8
  | [] => []
  | [x] => x
  | x :: y :: r => x ++ 42 :: joinB (y :: r)
def headT (k : Int) (t v : List UInt8) (s : List (List UInt8)) : List UInt8 :=
  if k = 0 then [38] else if k = 1 then [124] else if k = 2 then [33]
  else if k = 3 then t ++ 61 :: told v
  else if k = 4 then t ++ 61 :: joinB (s.map told)
  else if k = 5 then t ++ 62 :: 61 :: told v
  else if k = 6 then t ++ 60 :: 61 :: told v
  else if k = 7 then t ++ [61, 42] else []
mutual
def prF : Fil → List UInt8
  | .mk k t v s ks => 40 :: (headT k t v s ++ prL ks ++ [41])
def prL : List Fil → List UInt8
  | [] => []
  | f :: r => prF f ++ prL r
end
/-! ### out of a text: the program's way; what is left of the text, and the error, are told -/
abbrev St := List UInt8 × Int
def failE (e c : Int) : Int := if e = 0 then c else e
def stopV (c : UInt8) : Bool := decide (c = 42) || decide (c = 40) || decide (c = 41)
def pDig : List UInt8 → Int → Int × St
  | [], e => (0, [], failE e 3)
  | c :: r, e => if halfV c < 0 then (0, r, failE e 3) else (halfV c, r, e)
theorem pDig_le (r : List UInt8) (e : Int) : (pDig r e).2.1.length ≤ r.length := by
  cases r with
  | nil => simp [pDig]
  | cons c r => by_cases h : halfV c < 0 <;> simp [pDig, h]
def pVal (r : List UInt8) : List UInt8 × St :=
  match r with
  | [] => ([], [], 0)
  | c :: t =>
    if stopV c = true then ([], c :: t, 0)
    else if c = 0 then ([0], t, 3)
    else if c = 92 then
      (if (pDig (pDig t 0).2.1 (pDig t 0).2.2).2.2 = 0 then (b8 ((pDig t 0).1 * 16 + (pDig (pDig t 0).2.1 (pDig t 0).2.2).1) :: (pVal (pDig (pDig t 0).2.1 (pDig t 0).2.2).2.1).1, (pVal (pDig (pDig t 0).2.1 (pDig t 0).2.2).2.1).2)
       else ([b8 ((pDig t 0).1 * 16 + (pDig (pDig t 0).2.1 (pDig t 0).2.2).1)], (pDig (pDig t 0).2.1 (pDig t 0).2.2).2))
    else (c :: (pVal t).1, (pVal t).2)
termination_by r.length
decreasing_by
  all_goals simp only [List.length_cons]
  all_goals (have h1 := pDig_le (pDig t 0).2.1 (pDig t 0).2.2; have h2 := pDig_le t 0; omega)
theorem pVal_le (r : List UInt8) : (pVal r).2.1.length ≤ r.length := by
  induction hn : r.length using Nat.strongRecOn generalizing r with
  | _ n ih =>
    unfold pVal
    cases r with
    | nil => simp
    | cons c t =>
      simp only [List.length_cons] at hn
      have h1 := pDig_le (pDig t 0).2.1 (pDig t 0).2.2
      have h2 := pDig_le t 0
      dsimp only
      split
      · simp; omega
      split
      · simp; omega
      split
      · split
        · have := ih _ (by omega) (pDig (pDig t 0).2.1 (pDig t 0).2.2).2.1 rfl
          dsimp only; omega
        · dsimp only; omega
      · have := ih _ (by omega) t rfl
        dsimp only; omega
def pStars (r : List UInt8) (e : Int) : List (List UInt8) × St :=
  match r with
  | [] => ([], [], e)
  | c :: t => if e = 0 ∧ c = 42 then ((pVal t).1 :: (pStars (pVal t).2.1 (pVal t).2.2).1, (pStars (pVal t).2.1 (pVal t).2.2).2) else ([], c :: t, e)
termination_by r.length
decreasing_by
  all_goals simp only [List.length_cons]
  all_goals (have h1 := pVal_le t; omega)
def pEq (r : List UInt8) : List (List UInt8) × St := ((pVal r).1 :: (pStars (pVal r).2.1 (pVal r).2.2).1, (pStars (pVal r).2.1 (pVal r).2.2).2)
def noSign (c : UInt8) : Bool := !(decide (c = 61) || decide (c = 60) || decide (c = 62) || decide (c = 126))
def pKind (r : List UInt8) : List UInt8 × St := (r.takeWhile noSign, r.dropWhile noSign, if typB (r.takeWhile noSign) = true then 0 else 3)
def tk (t r : List UInt8) : Bool := t.isPrefixOf r
def mkEq (t : List UInt8) (l : List (List UInt8)) : Fil :=
  if l.length = 1 then .mk 3 t (l.getD 0 []) [] []
  else if l.length = 2 ∧ l.getD 0 [] = [] ∧ l.getD 1 [] = [] then .mk 7 t [] [] []
  else .mk 4 t [] l []
/-- Behind a type. -/
def pRest (t r : List UInt8) : Fil × St :=
  if tk [61] r = true then (mkEq t (pEq (r.drop 1)).1, (pEq (r.drop 1)).2)
  else if tk [62, 61] r = true then (.mk 5 t (pVal (r.drop 2)).1 [] [], (pVal (r.drop 2)).2)
  else if tk [60, 61] r = true then (.mk 6 t (pVal (r.drop 2)).1 [] [], (pVal (r.drop 2)).2)
  else if tk [126, 61] r = true then (.mk 3 t (pVal (r.drop 2)).1 [] [], (pVal (r.drop 2)).2)
  else (.mk 0 t [] [] [], r, 3)
def pItem (r : List UInt8) : Fil × St :=
  if (pKind r).2.2 = 0 then pRest (pKind r).1 (pKind r).2.1 else (.mk 0 (pKind r).1 [] [] [], (pKind r).2)
/-- One filter or more. -/
def kLoop (pf : List UInt8 → Fil × St) (k : Int) : Nat → List Fil → List UInt8 → List Fil × St
  | 0, acc, r => (acc, r, 0)
  | n + 1, acc, r => if (pf r).2.2 = 0 ∧ k ≠ 2 ∧ tk [40] (pf r).2.1 = true then kLoop pf k n (acc ++ [(pf r).1]) (pf r).2.1 else (acc ++ [(pf r).1], (pf r).2)
def pKids (pf : List UInt8 → Fil × St) (k : Int) (r : List UInt8) : Fil × St := (.mk k [] [] [] (kLoop pf k (r.length + 1) [] r).1, (kLoop pf k (r.length + 1) [] r).2)
/-- The end of a filter. -/
def closeP (x : Fil × St) : Fil × St := if x.2.2 = 0 then (if tk [41] x.2.1 = true then (x.1, x.2.1.drop 1, 0) else (x.1, x.2.1, 3)) else x
def pBody (pf : List UInt8 → Fil × St) (r : List UInt8) : Fil × St :=
  if tk [38] r = true then pKids pf 0 (r.drop 1) else if tk [124] r = true then pKids pf 1 (r.drop 1) else if tk [33] r = true then pKids pf 2 (r.drop 1) else pItem r
def pFilt : Nat → List UInt8 → Fil × St
  | 0, r => if tk [40] r = true then (zeroF, r.drop 1, 10) else (zeroF, r, 3)
  | d + 1, r => if tk [40] r = true then closeP (pBody (pFilt d) (r.drop 1)) else (zeroF, r, 3)
def pParse (s : List UInt8) : Fil × Int :=
  if (pFilt 16 s).2.2 ≠ 0 then (zeroF, (pFilt 16 s).2.2) else if (pFilt 16 s).2.1 ≠ [] then (zeroF, 3) else if isF (pFilt 16 s).1 = true then ((pFilt 16 s).1, 0) else (zeroF, 5)
/-! ### out of a text: the document's way -/
def signC (r : List UInt8) : UInt8 := if tk [62] r = true then 62 else if tk [60] r = true then 60 else if tk [126] r = true then 126 else 61
def signT (r : List UInt8) : List UInt8 := if tk [62] r = true ∨ tk [60] r = true ∨ tk [126] r = true then r.drop 1 else r
/-- A type and a sign; 0: there is none. -/
def rTyp (r : List UInt8) : List UInt8 × UInt8 × List UInt8 :=
  if typB (r.takeWhile typC) = true then
    (if tk [61] (signT (r.dropWhile typC)) = true then (r.takeWhile typC, signC (r.dropWhile typC), (signT (r.dropWhile typC)).drop 1) else ([], 0, signT (r.dropWhile typC)))
  else ([], 0, r.dropWhile typC)
def inHead (x : UInt8) : List (List UInt8) → List (List UInt8)
  | [] => []
  | p :: r => (x :: p) :: r
/-- Pieces of a value; none: it is none. -/
def rVal : List UInt8 → Option (List (List UInt8)) × List UInt8
  | [] => (some [[]], [])
  | c :: t =>
    if c = 41 then (some [[]], c :: t)
    else if c = 40 ∨ c = 0 then (none, c :: t)
    else if c = 42 then ((rVal t).1.map ([] :: ·), (rVal t).2)
    else if c = 92 then
      (match t with
       | h :: l :: t' => if 0 ≤ halfV h ∧ 0 ≤ halfV l then ((rVal t').1.map (inHead (b8 (16 * halfV h + halfV l))), (rVal t').2) else (none, c :: t)
       | _ => (none, c :: t))
    else ((rVal t).1.map (inHead c), (rVal t).2)
def rMk (t : List UInt8) (c : UInt8) (l : List (List UInt8)) : Fil :=
  if c = 62 then .mk 5 t (l.getD 0 []) [] [] else if c = 60 then .mk 6 t (l.getD 0 []) [] []
  else if l.length = 2 ∧ l.getD 0 [] = [] ∧ l.getD 1 [] = [] then .mk 7 t [] [] []
  else if 1 < l.length then .mk 4 t [] l [] else .mk 3 t (l.getD 0 []) [] []
def rFin (t : List UInt8) (c : UInt8) : Option (List (List UInt8)) × List UInt8 → Fil × St
  | (none, q) => (zeroF, q, 3)
  | (some l, q) => if c ≠ 61 ∧ 1 < l.length then (zeroF, q, 3) else (rMk t c l, q, 0)
theorem rFin_none (t : List UInt8) (c : UInt8) (q : List UInt8) : rFin t c (none, q) = (zeroF, q, 3) := rfl
theorem rFin_some (t : List UInt8) (c : UInt8) (l : List (List UInt8)) (q : List UInt8) : rFin t c (some l, q) = if c ≠ 61 ∧ 1 < l.length then (zeroF, q, 3) else (rMk t c l, q, 0) := rfl
def rItem (r : List UInt8) : Fil × St :=
  if (rTyp r).2.1 = 0 then (zeroF, (rTyp r).2.2, 3) else rFin (rTyp r).1 (rTyp r).2.1 (rVal (rTyp r).2.2)
def rLoop (rf : List UInt8 → Fil × St) : Nat → List Fil → List UInt8 → List Fil × St
  | 0, acc, r => (acc, r, 0)
  | n + 1, acc, r => if (rf r).2.2 = 0 ∧ tk [40] (rf r).2.1 = true then rLoop rf n (acc ++ [(rf r).1]) (rf r).2.1 else (acc ++ [(rf r).1], (rf r).2)
def rKids (rf : List UInt8 → Fil × St) (k : Int) (r : List UInt8) : Fil × St := (.mk k [] [] [] (rLoop rf (r.length + 1) [] r).1, (rLoop rf (r.length + 1) [] r).2)
def closeR (x : Fil × St) : Fil × St := if x.2.2 = 0 then (if tk [41] x.2.1 = true then (x.1, x.2.1.drop 1, 0) else (zeroF, x.2.1, 3)) else x
def rBody (rf : List UInt8 → Fil × St) (r : List UInt8) : Fil × St :=
  if tk [38] r = true then rKids rf 0 (r.drop 1) else if tk [124] r = true then rKids rf 1 (r.drop 1) else if tk [33] r = true then (.mk 2 [] [] [] [(rf (r.drop 1)).1], (rf (r.drop 1)).2) else rItem r
def rFilt : Nat → List UInt8 → Fil × St
  | 0, r => if tk [40] r = true then (zeroF, r.drop 1, 10) else (zeroF, r, 3)
  | d + 1, r => if tk [40] r = true then closeR (rBody (rFilt d) (r.drop 1)) else (zeroF, r, 3)
def rParse (s : List UInt8) : Fil × Int :=
  if (rFilt 16 s).2.2 ≠ 0 then (zeroF, (rFilt 16 s).2.2) else if (rFilt 16 s).2.1 ≠ [] then (zeroF, 3) else if isF (rFilt 16 s).1 = true then ((rFilt 16 s).1, 0) else (zeroF, 5)
end Go.Fi
