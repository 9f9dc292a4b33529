/-
  The plain functions of acl: who may what. Nothing here speaks of a program; no conditions.
-/
import Derived.Test.YtjbcdakjbpepdaaD0
set_option linter.unusedVariables false
namespace Go.Ac
open Go.Vk
open Go.Dn (Ava cAva typB isE sameE underE foldE wgt)
/-- A rule. -/
structure Rule where
  who : Int
  name : List Ava
  base : List Ava
  sub : Bool
  typ : List UInt8
  rights : Int
  grant : Bool
instance : Inhabited Rule := ⟨⟨0, [], [], false, [], 0, false⟩⟩
def cRule (r : Rule) : List Ty := [okI .i64 r.who, TSl 2 cAva r.name, TSl 2 cAva r.base, Is (.bool r.sub), Is (str r.typ), okI .i64 r.rights, Is (.bool r.grant)]
/-- What is looked at is not too great. -/
def okR (r : Rule) : Prop := wgt r.name ≤ 1500 ∧ wgt r.base ≤ 1500 ∧ r.typ.length ≤ 100
def isR (r : Rule) : Bool := decide (0 ≤ r.who ∧ r.who ≤ 3) && isE r.name && (decide (r.who = 3) || decide ((r.name.length : Int) = 0)) && isE r.base && (decide (r.typ = []) || typB r.typ) && decide (1 ≤ r.rights ∧ r.rights ≤ 15)
def chkB (l : List Rule) : Bool := decide ((l.length : Int) ≤ 64) && l.all isR
def forB (r : Rule) (who target : List Ava) : Bool :=
  if r.who = 1 then decide (0 < (who.length : Int)) else if r.who = 2 then decide (0 < (who.length : Int)) && sameE who target else if r.who = 3 then sameE who r.name else true
def rgtB (n : Int) : Bool := decide (n = 1) || decide (n = 2) || decide (n = 4) || decide (n = 8)
def fitsB (r : Rule) (who target : List Ava) (typ : List UInt8) (right : Int) : Bool :=
  isR r && rgtB right && !decide (bitsOf .and .i64 r.rights right = 0) && forB r who target && (sameE target r.base || (r.sub && underE target r.base)) && (decide (r.typ = []) || decide (foldE r.typ = foldE typ))
def mayR (l : List Rule) (who target : List Ava) (typ : List UInt8) (right : Int) : Bool :=
  match l with
  | [] => false
  | r :: l => if fitsB r who target typ right = true then r.grant else mayR l who target typ right
def mayB (l : List Rule) (root who target : List Ava) (typ : List UInt8) (right : Int) : Bool :=
  if root.length ≠ 0 ∧ sameE who root = true then true else mayR l who target typ right
theorem and15_bd (n : Int) (hn : InK .i64 n) (h : bitsOf .and .i64 n 15 = n) : 0 ≤ n ∧ n ≤ 15 := by
  have h1 := mask_toNat 64 4 n (by decide)
  have h2 : bitsOf .and .i64 n 15 = IntKind.i64.wrap (n % 16) := by
    unfold bitsOf
    show IntKind.i64.wrap (((BitVec.ofInt 64 n) &&& BitVec.ofInt 64 15).toNat : Int) = _
    rw [show (BitVec.ofInt 64 15) = BitVec.ofInt 64 ((2 ^ 4 - 1 : Nat) : Int) from rfl, h1]; rfl
  have h3 : IntKind.i64.wrap (n % 16) = n % 16 := InK.i64 (by omega)
  rw [h2, h3] at h
  omega
theorem rgt_tab : ∀ n : Fin 16, (n.val = 0 ∨ bitsOf .and .i64 (n.val : Int) ((n.val : Int) - 1) ≠ 0) ↔ rgtB (n.val : Int) = false := by decide +kernel
theorem rgt_no {n : Int} (h : 0 ≤ n ∧ n ≤ 15) : (n = 0 ∨ bitsOf .and .i64 n (n - 1) ≠ 0) ↔ rgtB n = false := by
  have := rgt_tab ⟨n.toNat, by omega⟩
  have e : (n.toNat : Int) = n := by omega
  simp only [e] at this
  rw [← this]
  constructor <;> (rintro (k | k) <;> first | (left; omega) | (right; exact k))
theorem rgt_bd {n : Int} (h : rgtB n = true) : 0 ≤ n ∧ n ≤ 15 ∧ bitsOf .and .i64 n 15 = n := by
  simp only [rgtB, Bool.or_eq_true, decide_eq_true_eq] at h
  rcases h with ((h | h) | h) | h <;> subst h <;> decide
end Go.Ac
