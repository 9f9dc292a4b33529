/-
  More rules: a byte's top bit, numbers of 64 bits without sign, read back with a sign. Nothing here speaks of a program; no conditions.
-/
import Derived.Test.YtibabbepnhpaiaaVs
set_option linter.unusedVariables false
namespace Go.Vk
theorem wrap_u64 (m : Int) : IntKind.u64.wrap m = m % 18446744073709551616 := by
  simp [IntKind.wrap, IntKind.bits, IntKind.signed]
theorem or_lowu {m c : Int} (hc : 0 ≤ c ∧ c < 256) : bitsOf .or .u64 ((m * 256) % 18446744073709551616) c = (m * 256 + c) % 18446744073709551616 := by
  have e : ((BitVec.ofInt 64 ((m * 256) % 18446744073709551616) ||| BitVec.ofInt 64 c).toNat : Int) = (m * 256 + c) % 18446744073709551616 := by
    rw [BitVec.toNat_or, BitVec.toNat_ofInt, BitVec.toNat_ofInt]
    have h1 : (c % ((2 ^ 64 : Nat) : Int)).toNat = c.toNat := by omega
    have h2 : (((m * 256) % 18446744073709551616) % ((2 ^ 64 : Nat) : Int)).toNat = 2 ^ 8 * (m % 72057594037927936).toNat := by omega
    rw [h1, h2, ← Nat.two_pow_add_eq_or_of_lt (by omega)]
    omega
  show IntKind.u64.wrap ((BitVec.ofInt 64 ((m * 256) % 18446744073709551616) ||| BitVec.ofInt 64 c).toNat : Int) = _
  rw [e, wrap_u64]
  omega
section
variable {P : Program} {L : List Res} {E : Env} {dst : Option Tmp} {ty : TypeId} {pos : String} {after : Array Edge} {gd : Option (Nat × Bool)}
theorem op_shr7 {x : Operand} {c : UInt8} {xt yt : TypeId} (hx : Opd E x = some (okI .u8 (c.toNat : Int))) : OpP P L E ⟨dst, .binOp .shr xt x (.const (.int .u64 7)) yt, ty, pos, after, gd⟩ (okI .u8 ((c.toNat : Int) / 128)) :=
  op_shr (n := 7) hx rfl (by decide)
theorem op_shl8u {x : Operand} {m : Int} {xt yt : TypeId} (hx : Opd E x = some (okI .u64 m)) : OpP P L E ⟨dst, .binOp .shl xt x (.const (.int .u64 8)) yt, ty, pos, after, gd⟩ (okI .u64 ((m * 256) % 18446744073709551616)) := by
  rw [← wrap_u64]; exact op_shlw (n := 8) hx rfl (by decide)
theorem op_orlowu {x y : Operand} {m : Int} {c : UInt8} {xt yt : TypeId} (hx : Opd E x = some (okI .u64 ((m * 256) % 18446744073709551616))) (hy : Opd E y = some (okI .u64 (c.toNat : Int))) : OpP P L E ⟨dst, .binOp .or xt x y yt, ty, pos, after, gd⟩ (okI .u64 ((m * 256 + (c.toNat : Int)) % 18446744073709551616)) := by
  have := c.toNat_lt
  rw [← or_lowu (by omega)]; exact op_orb hx hy
end
end Go.Vk
