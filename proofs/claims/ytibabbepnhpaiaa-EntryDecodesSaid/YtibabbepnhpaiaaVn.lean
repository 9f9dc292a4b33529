/-
  The steps through regions that turn what is one's own, in the form that 'run' takes. Nothing here speaks of a program; no conditions.
-/
import Derived.Test.YtibabbepnhpaiaaVl
set_option linter.unusedVariables false
namespace Go.Vk
section
variable {P : Program} {L : List Res} {E : Env} {dst : Option Tmp} {ty : TypeId} {pos : String} {after : Array Edge} {gd : Option (Nat × Bool)}
theorem op_shl4 {x : Operand} {m : Int} {xt yt : TypeId} (hx : Opd E x = some (okI .u8 m)) (h : 0 ≤ m ∧ m ≤ 15) : OpP P L E ⟨dst, .binOp .shl xt x (.const (.int .u64 4)) yt, ty, pos, after, gd⟩ (okI .u8 (m * 16)) :=
  op_shl (n := 4) hx rfl (by decide) (InK.u8 (by
    show 0 ≤ m * 2 ^ 4 ∧ m * 2 ^ 4 ≤ 255
    omega))
theorem or16 : ∀ m n : Fin 16, bitsOf .or .u8 ((m.val : Int) * 16) (n.val : Int) = (m.val : Int) * 16 + (n.val : Int) := by decide +kernel
theorem op_or16 {x y : Operand} {m n : Int} {xt yt : TypeId} (hx : Opd E x = some (okI .u8 (m * 16))) (hy : Opd E y = some (okI .u8 n)) (h : (0 ≤ m ∧ m ≤ 15) ∧ 0 ≤ n ∧ n ≤ 15) : OpP P L E ⟨dst, .binOp .or xt x y yt, ty, pos, after, gd⟩ (okI .u8 (m * 16 + n)) := by
  have e := or16 ⟨m.toNat, by omega⟩ ⟨n.toNat, by omega⟩
  have h1 : ((m.toNat : Nat) : Int) = m := by omega
  have h2 : ((n.toNat : Nat) : Int) = n := by omega
  simp only [h1, h2] at e
  rw [← e]
  exact op_orb hx hy
theorem op_shr4 {x : Operand} {c : UInt8} {xt yt : TypeId} (hx : Opd E x = some (okI .u8 (c.toNat : Int))) : OpP P L E ⟨dst, .binOp .shr xt x (.const (.int .u64 4)) yt, ty, pos, after, gd⟩ (okI .u8 ((c.toNat : Int) / 16)) :=
  op_shr (n := 4) hx rfl (by decide)
theorem and15 : ∀ n : Fin 256, bitsOf .and .u8 (n.val : Int) 15 = (n.val : Int) % 16 := by decide +kernel
theorem op_and15 {x : Operand} {c : UInt8} {xt yt : TypeId} (hx : Opd E x = some (okI .u8 (c.toNat : Int))) : OpP P L E ⟨dst, .binOp .and xt x (.const (.int .u8 15)) yt, ty, pos, after, gd⟩ (okI .u8 ((c.toNat : Int) % 16)) := by
  have e := and15 ⟨c.toNat, c.toNat_lt⟩
  simp only at e
  rw [← e]
  exact op_andb hx rfl
end
section
variable {F : FCtx} {E : Env} {L : List Res} {Q : Exit → Act → World → Prop} {ops : Array Oper} {rest : List Oper} {fin : Env → List Res → Prop} {d : Nat} {op : Op} {ty : TypeId} {pos : String} {after : Array Edge} {T : Value → Ty} {L' : Value → List Res}
theorem RegS.ofC (hd : Nat.blt d F.N = true) (hop : OpC F.P L E ⟨some d, op, ty, pos, after, none⟩ T L') (hgo : ∀ v, RegS F ops Q rest ((d, T v) :: E) (L' v)) : RegS F ops Q (⟨some d, op, ty, pos, after, none⟩ :: rest) E L := .ce hd hop hgo
theorem RegS.ofCn (hop : OpC F.P L E ⟨none, op, ty, pos, after, none⟩ T L') (hgo : ∀ v, RegS F ops Q rest E (L' v)) : RegS F ops Q (⟨none, op, ty, pos, after, none⟩ :: rest) E L := .c rfl rfl hop hgo
def KeepOk (A B : List Res) : List Nat → Prop
  | [] => True
  | k :: ks => A[k]? = B[k]? ∧ KeepOk A B ks
theorem KeepOk.nil {A B : List Res} : KeepOk A B [] := trivial
theorem KeepOk.cons {A B : List Res} {k : Nat} {ks : List Nat} (h : A[k]? = B[k]?) (r : KeepOk A B ks) : KeepOk A B (k :: ks) := ⟨h, r⟩
theorem KeepOk.at {A B : List Res} : ∀ {ks : List Nat}, KeepOk A B ks → ∀ k ∈ ks, A[k]? = B[k]?
  | [], _, k, h => by simp at h
  | j :: ks, ⟨h1, h2⟩, k, h => by
    rcases List.mem_cons.1 h with e | e
    · rw [e]; exact h1
    · exact KeepOk.at h2 k e
variable {j m : Nat} {ks keep : List Nat} {r : List PlanE}
theorem isRM {pl : List PlanE} (h : RegM F ops fin pl E L) : RegM F ops fin pl E L := h
/-- The plan says so. -/
theorem isRMc (h : RegM F ops fin ((j, 0, keep) :: r) E L) : RegM F ops fin ((j, 0, keep) :: r) E L := h
theorem RegM.nil (h : fin E L) : RegM F ops fin [] E L := h
theorem RegM.ofC (ho : ops[j]? = some ⟨some d, op, ty, pos, after, none⟩) (hd : Nat.blt d F.N = true) (hop : OpC F.P L E ⟨some d, op, ty, pos, after, none⟩ T L') (zk : ∀ v, KeepOk (L' v) L keep) (hgo : ∀ v, RegM F ops fin r ((d, T v) :: E) (L' v)) : RegM F ops fin ((j, 0, keep) :: r) E L := ⟨_, T, L', ho, rfl, hd, hop, fun v => (zk v).at, hgo⟩
theorem RegM.ofCn (ho : ops[j]? = some ⟨none, op, ty, pos, after, none⟩) (hop : OpC F.P L E ⟨none, op, ty, pos, after, none⟩ T L') (zk : ∀ v, KeepOk (L' v) L keep) (hgo : ∀ v, RegM F ops fin r E (L' v)) : RegM F ops fin ((j, 0, keep) :: r) E L := ⟨_, T, L', ho, rfl, rfl, hop, fun v => (zk v).at, hgo⟩
theorem RegM.fq {Lm : List Res} (ho : ops[j]? = some ⟨some d, op, ty, pos, after, none⟩) (hd : Nat.blt d F.N = true) (hm : modeL L (m + 1) ks = Lm) (h : ∃ T, (True → OpP F.P Lm E ⟨some d, op, ty, pos, after, none⟩ T) ∧ RegM F ops fin r ((d, T) :: E) L) : RegM F ops fin ((j, m + 1, ks) :: r) E L :=
  let ⟨T, h1, h2⟩ := h; ⟨_, T, ho, hd, by rw [hm]; exact .free rfl (h1 trivial), h2⟩
theorem RegM.fnq {Lm : List Res} (ho : ops[j]? = some ⟨none, op, ty, pos, after, none⟩) (hm : modeL L (m + 1) ks = Lm) (h : ∃ T, (True → OpP F.P Lm E ⟨none, op, ty, pos, after, none⟩ T) ∧ RegM F ops fin r E L) : RegM F ops fin ((j, m + 1, ks) :: r) E L :=
  let ⟨T, h1, h2⟩ := h; ⟨_, T, ho, rfl, by rw [hm]; exact .free rfl (h1 trivial), h2⟩
theorem RegM.ge {Lm : List Res} {jg : Nat} {want b : Bool} {dg : Nat} (ho : ops[j]? = some ⟨some d, op, ty, pos, after, some (jg, want)⟩) (hd : Nat.blt d F.N = true) (hm : modeL L (m + 1) ks = Lm) (hj : (ops[jg]?).bind (·.dst) = some dg) (he : E.get dg = some (Is (.bool b))) (h : ∃ T, (b = want → OpP F.P Lm E ⟨some d, op, ty, pos, after, some (jg, want)⟩ T) ∧ RegM F ops fin r ((d, TIf (b = want) T) :: E) L) : RegM F ops fin ((j, m + 1, ks) :: r) E L :=
  let ⟨T, h1, h2⟩ := h; ⟨_, _, ho, hd, by rw [hm]; exact .guarded rfl hj he (.is b want) h1, h2⟩
theorem RegM.gn {Lm : List Res} {jg : Nat} {want b : Bool} {dg : Nat} {c : Prop} (ho : ops[j]? = some ⟨some d, op, ty, pos, after, some (jg, want)⟩) (hd : Nat.blt d F.N = true) (hm : modeL L (m + 1) ks = Lm) (hj : (ops[jg]?).bind (·.dst) = some dg) (he : E.get dg = some (TIf c (Is (.bool b)))) (h : ∃ T, (c ∧ b = want → OpP F.P Lm E ⟨some d, op, ty, pos, after, some (jg, want)⟩ T) ∧ RegM F ops fin r ((d, TIf (c ∧ b = want) T) :: E) L) : RegM F ops fin ((j, m + 1, ks) :: r) E L :=
  let ⟨T, h1, h2⟩ := h; ⟨_, _, ho, hd, by rw [hm]; exact .guarded rfl hj he (.nest c b want) h1, h2⟩
end
end Go.Vk
