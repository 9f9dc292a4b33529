/-
  The steps of the rules with and without a guard in one form. Nothing here speaks of a program; no conditions.
-/
import Derived.Test.YtibabbepnhpaiaaVs
set_option linter.unusedVariables false
namespace Go.Vk
section
variable {F : FCtx} {E : Env} {L : List Res} {Q : Exit → Act → World → Prop} {ops : Array Oper} {o : Oper} {rest : List Oper} {fin : Env → Prop}
theorem RegS.fq {d : Nat} {op : Op} {ty : TypeId} {pos : String} {after : Array Edge} (hd : Nat.blt d F.N = true) (h : ∃ T, (True → OpP F.P L E ⟨some d, op, ty, pos, after, none⟩ T) ∧ RegS F ops Q rest ((d, T) :: E) L) : RegS F ops Q (⟨some d, op, ty, pos, after, none⟩ :: rest) E L := let ⟨_, h1, h2⟩ := h; .f hd rfl (h1 trivial) h2
theorem RegS.fnq {op : Op} {ty : TypeId} {pos : String} {after : Array Edge} (h : ∃ T, (True → OpP F.P L E ⟨none, op, ty, pos, after, none⟩ T) ∧ RegS F ops Q rest E L) : RegS F ops Q (⟨none, op, ty, pos, after, none⟩ :: rest) E L := let ⟨_, h1, h2⟩ := h; .f rfl rfl (h1 trivial) h2
theorem RegA.fq {d : Nat} {op : Op} {ty : TypeId} {pos : String} {after : Array Edge} (hd : Nat.blt d F.N = true) (h : ∃ T, (True → OpP F.P L E ⟨some d, op, ty, pos, after, none⟩ T) ∧ RegA F ops L fin rest ((d, T) :: E)) : RegA F ops L fin (⟨some d, op, ty, pos, after, none⟩ :: rest) E :=
  let ⟨T, h1, h2⟩ := h; ⟨T, hd, .free rfl (h1 trivial), h2⟩
theorem RegA.fnq {op : Op} {ty : TypeId} {pos : String} {after : Array Edge} (h : ∃ T, (True → OpP F.P L E ⟨none, op, ty, pos, after, none⟩ T) ∧ RegA F ops L fin rest E) : RegA F ops L fin (⟨none, op, ty, pos, after, none⟩ :: rest) E :=
  let ⟨T, h1, h2⟩ := h; ⟨T, rfl, .free rfl (h1 trivial), h2⟩
end
section
variable {P : Program} {L : List Res} {E : Env} {dst : Option Tmp} {ty : TypeId} {pos : String} {after : Array Edge} {gd : Option (Nat × Bool)}
theorem exCall {f : FuncId} {A : List Ty} {T : Ty} {xs : List Operand} {tys : Array TypeId} {c : Prop} {K : Ty → Prop} (hx : Opds E xs A) (hf : c → CFn P f A T) (k : K T) :
    ∃ T, (c → OpP P L E ⟨dst, .call { callee := .value (.func f), args := xs.toArray, argTypes := tys }, ty, pos, after, gd⟩ T) ∧ K T := ⟨T, fun h => op_call (hf h) hx, k⟩
theorem exCallS {f : FuncId} {A : List Ty} {T : Ty} {xs : List Operand} {tys : Array TypeId} {c : Prop} {K : Ty → Prop} (hf : c → CFn P f A T) (zxs : OpdsS E xs A) (k : K T) :
    ∃ T, (c → OpP P L E ⟨dst, .call { callee := .value (.func f), args := xs.toArray, argTypes := tys }, ty, pos, after, gd⟩ T) ∧ K T := ⟨T, fun h => op_callS (hf h) zxs, k⟩
theorem Opds.nil : Opds E [] [] := trivial
theorem Opds.cons {x : Operand} {xs : List Operand} {T : Ty} {A : List Ty} (h : Opd E x = some T) (k : Opds E xs A) : Opds E (x :: xs) (T :: A) := ⟨h, k⟩
theorem OpdsS.nil : OpdsS E [] [] := trivial
theorem OpdsS.cons {x : Operand} {xs : List Operand} {T U : Ty} {A : List Ty} (h : Opd E x = some U) (hs : Sub U T) (k : OpdsS E xs A) : OpdsS E (x :: xs) (T :: A) := ⟨⟨U, h, hs⟩, k⟩
theorem isSub {T U : Ty} (h : Sub T U) : Sub T U := h
end
end Go.Vk
