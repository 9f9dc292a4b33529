/-
  Arrays of one's own: places of their elements. Nothing here speaks of a program; no conditions.
-/
import Derived.Test.YtohhhaeemephnaaGah
import Derived.Test.YtohhhaeemephnaaGad
import Derived.Test.YtohhhaeemephnaaGai
import Derived.Test.YtohhhaeemephnaaGaf
import Derived.WideKeyArr2
set_option linter.unusedSimpArgs false
set_option linter.unusedVariables false
set_option linter.unusedVariables false
namespace Go.Vk
section
variable {P : Program} {L : List Res} {E : Env} {dst : Option Tmp} {ty : TypeId} {pos : String} {after : Array Edge} {gd : Option (Nat × Bool)} {g : Nat}
theorem run_indexArr {w : World} {t e' : TypeId} {n : Nat} {m : Int} {k : IntKind} (hu : P.underlying t = some (.array n e')) (hsz : P.cellsOf e' = 1) (hinf : (P.info? e').isSome = true) (h : 0 ≤ m ∧ m < (n : Int)) : (Instr.indexAt t (pAt g 0) (.int k m)).run P w = .ok (pAt g m.toNat) w := by
  obtain ⟨inf, hinf⟩ := Option.isSome_iff_exists.1 hinf
  have hs : inf.size = 1 := by simpa [Program.cellsOf, hinf] using hsz
  have e3 : (⟨g, 0, none⟩ : Addr).add m.toNat = ⟨g, m.toNat, none⟩ := by
    unfold Addr.add; split <;> simp_all
  simp [Instr.indexAt, asIntOf, run_underlying hu, h, sizeOf, typeInfo, hinf, hs, e3, pAt, Instr.sureAddr]
theorem op_indexRP {x i : Operand} {t e' e : TypeId} {n : Nat} {m : Int} {k : IntKind} {ts : List Ty} (j : Nat) (hx : Opd E x = some (Is (pAt g 0))) (hL : L[j]? = some (ownP g e ts)) (hu : P.underlying t = some (.array n e')) (hi : Opd E i = some (okI k m)) (hsz : P.cellsOf e' = 1) (hinf : (P.info? e').isSome = true) (h : 0 ≤ m ∧ m < (n : Int)) : OpP P L E ⟨dst, .indexAddr t x i, ty, pos, after, gd⟩ (Is (pAt g m.toNat)) :=
  OpP.same fun a w G S _ _ ho => by
    have e1 : a.eval x = pAt g 0 := ho x (by simp [Op.operands]) _ hx
    have e2 : a.eval i = .int k m := ho i (by simp [Op.operands]) _ hi
    refine ⟨_, ?_, rfl⟩
    simp only [execOp, e1, e2]
    simp [run_indexArr hu hsz hinf h]
theorem op_indexRA {α : Type} {f : α → List Ty} {l : List α} {c : Nat} {x i : Operand} {t e' e : TypeId} {n : Nat} {m : Int} {k : IntKind} (j : Nat) (hx : Opd E x = some (Is (pAt g 0))) (hL : L[j]? = some (ownA g c e 1 f l)) (hu : P.underlying t = some (.array n e')) (hi : Opd E i = some (okI k m)) (hsz : P.cellsOf e' = 1) (hinf : (P.info? e').isSome = true) (h : 0 ≤ m ∧ m < (n : Int)) : OpP P L E ⟨dst, .indexAddr t x i, ty, pos, after, gd⟩ (Is (pEl g 1 m.toNat 0)) :=
  OpP.same fun a w G S _ _ ho => by
    have e1 : a.eval x = pAt g 0 := ho x (by simp [Op.operands]) _ hx
    have e2 : a.eval i = .int k m := ho i (by simp [Op.operands]) _ hi
    refine ⟨_, ?_, rfl⟩
    rw [pEl_def, Nat.mul_one, Nat.add_zero]
    simp only [execOp, e1, e2]
    simp [run_indexArr hu hsz hinf h]
end
/-- A slot is taken for less than it is. -/
theorem OpP.weak {P : Program} {L : List Res} {E : Env} {o : Oper} {T U V : Ty} {t : Nat} (ht : E.get t = some U) (hs : Sub U V) (h : OpP P L ((t, V) :: E) o T) : OpP P L E o T := fun a w G S h1 h2 h3 K Q k => by
  refine h a w G S h1 h2 (fun x hx T' e => ?_) K Q k
  cases x with
  | tmp t' =>
    have e' : Env.get ((t, V) :: E) t' = some T' := e
    simp only [Env.get] at e'
    cases hb : Nat.beq t t' with
    | true =>
      rw [hb] at e'
      cases e'
      have := Nat.eq_of_beq_eq_true hb
      subst this
      exact hs _ _ (h3 _ hx U ht)
    | false =>
      rw [hb] at e'
      exact h3 _ hx T' e'
  | const v => exact h3 _ hx T' e
  | global g => exact h3 _ hx T' e
  | func f => exact h3 _ hx T' e
theorem op_appendXTS {P : Program} {L : List Res} {E : Env} {dst : Option Tmp} {ty : TypeId} {pos : String} {after : Array Edge} {gd : Option (Nat × Bool)} {α : Type} {sz by_ : Nat} {f : α → List Ty} {m : List α} {l : List (List Ty)} {t e : TypeId} {z : Value} {x : Operand} {y : Nat} (hy : E.get y = some (TSl sz f m)) (hx : Opd ((y, TSl sz (fun ts : List Ty => ts) (m.map f)) :: E) x = some (TSlX sz (fun ts : List Ty => ts) l))
    (hu : P.underlying t = some (.slice e)) (hinf : (P.info? e).map (fun i => (i.zero, i.size, i.bytes)) = some (some z, sz, by_)) (hb : Nat.ble by_ 1024 = true) (hl : l.length + m.length ≤ 137438953472) :
    OpP P L E ⟨dst, .call { callee := .builtin .append, args := #[x, .tmp y], argTypes := #[t, t] }, ty, pos, after, gd⟩ (TSl sz (fun ts : List Ty => ts) (l ++ m.map f)) :=
  OpP.weak hy (Sub.unT sz f m) (op_appendXT' hx (by simp [Opd, Env.get]) hu hinf hb (by rw [List.length_map]; exact hl))
/-- A variable as a row of cells that may be turned by number, and back. -/
theorem RSub.rowA {α : Type} {g : Nat} {e : TypeId} {f : α → List Ty} {l : List α} {ts : List Ty} (hf : ∀ a ∈ l, (f a).length = 1) (ht : l.flatMap f = ts) (hc : l.length ≤ maxLen) : RSub (ownP g e ts) (ownA g l.length e 1 f l) := fun S G w h => by
  subst ht
  exact ⟨hf, Nat.le_refl _, hc, [], by rw [List.append_nil, flat_length hf], by rw [List.append_nil]; exact h⟩
theorem RSub.rowP {α : Type} {g : Nat} {e : TypeId} {f : α → List Ty} {l : List α} {ts : List Ty} (ht : l.flatMap f = ts) : RSub (ownA g l.length e 1 f l) (ownP g e ts) := fun S G w h => by
  obtain ⟨h1, h2, h3, rest, h4, h5⟩ := h
  have : rest = [] := by
    rw [List.length_append, flat_length h1] at h4
    exact List.eq_nil_of_length_eq_zero (by omega)
  subst this
  rw [List.append_nil, ht] at h5
  exact h5
theorem HT.rsub {F : FCtx} {E : Env} {L : List Res} {Q : Exit → Act → World → Prop} {c : Code} {R R' : Res} (i : Nat) (hL : L[i]? = some R) (hs : RSub R R') (h : HT F E (L.set i R') c Q) : HT F E L c Q := fun a w G S hi ht =>
  h a w G S ⟨hi.ext, hi.owns.put hL (hs _ _ _ (hi.owns.res i _ hL)), hi.mine⟩ ht
/-! ### keys that are two numbers -/
def pk2 (a b : Int) : Lit := .string (keyBytes [.int .i64 a, .int .i64 b])
theorem wfq {q : IntKind} {a : Int} (h : q.min ≤ a ∧ a ≤ q.max) : (Lit.int q a).wf = true := by simp [Lit.wf, h]
theorem wf64 {a : Int} (h : -9223372036854775808 ≤ a ∧ a ≤ 9223372036854775807) : (Lit.int .i64 a).wf = true := wfq (q := .i64) h
theorem keyOf_two {P : Program} {k e : TypeId} (A : WideMaps.ArrKey P k e 2) (he : P.underlying e = some (.int .i64)) (hsz : ∃ m, P.types.size = m + 1) {a b : Int} (ha : -9223372036854775808 ≤ a ∧ a ≤ 9223372036854775807) (hb : -9223372036854775808 ≤ b ∧ b ≤ 9223372036854775807) : keyOf P k (.agg #[.int .i64 a, .int .i64 b]) = some (pk2 a b) := by
  have hkt := A.keyType hsz
  obtain ⟨m0, hm0⟩ := hsz
  unfold keyOf
  simp only [A.hu]
  rw [if_pos (by simp [hkt, Value.formed, A.hu, A.size]), hm0]
  unfold Program.keyLits
  simp only [A.hu, Value.cells]
  rw [if_pos (by rw [A.size]; rfl)]
  have h0 : List.range 2 = [0, 1] := rfl
  simp [h0, A.one, Program.keyLits, he, wf64 ha, wf64 hb, pk2]
theorem KeyT.two {P : Program} {k e : TypeId} (A : WideMaps.ArrKey P k e 2) (he : P.underlying e = some (.int .i64)) (hsz : ∃ m, P.types.size = m + 1) {a b : Int} (ha : -9223372036854775808 ≤ a ∧ a ≤ 9223372036854775807) (hb : -9223372036854775808 ≤ b ∧ b ≤ 9223372036854775807) : KeyT P k (TAgg [okI .i64 a, okI .i64 b]) (pk2 a b) := fun G v h => by
  obtain ⟨vs, rfl, hl, hk⟩ := h
  match vs, hl with
  | [x, y], _ =>
    have e1 : x = .int .i64 a := (hk 0 _ _ rfl rfl).1
    have e2 : y = .int .i64 b := (hk 1 _ _ rfl rfl).1
    subst e1 e2
    exact keyOf_two A he hsz ha hb
theorem pk2_inj {P : Program} {k e : TypeId} (A : WideMaps.ArrKey P k e 2) (he : P.underlying e = some (.int .i64)) (hsz : ∃ m, P.types.size = m + 1) {a b c d : Int} (ha : -9223372036854775808 ≤ a ∧ a ≤ 9223372036854775807) (hb : -9223372036854775808 ≤ b ∧ b ≤ 9223372036854775807) (hc : -9223372036854775808 ≤ c ∧ c ≤ 9223372036854775807) (hd : -9223372036854775808 ≤ d ∧ d ≤ 9223372036854775807) (h : pk2 a b = pk2 c d) : a = c ∧ b = d := by
  have h1 := keyOf_two A he hsz ha hb
  have h2 := keyOf_two A he hsz hc hd
  rw [h] at h1
  have := A.law.inj h1 h2
  simp at this
  exact this
theorem PickX.emp {L : List Res} {iss : List (List Nat)} {B : List Res} (k : PickX L iss B) : PickX L ([] :: iss) (empR :: B) := ⟨fun _ S G w ho => trivial, k⟩
/-- The block of a map that stands second in a tuple. -/
def sndM : Value → Nat
  | .tuple a => mblk (a.getD 1 undef)
  | _ => 0
theorem sndM_at {T : Ty} {g : Nat} {G : Imm} {v : Value} (h : (TTup [T, Is (mpV g)]).p G v) : sndM v = g := by
  obtain ⟨vs, rfl, hl, hk⟩ := h
  match vs, hl with
  | [a, b], _ =>
    have := hk 1 _ _ rfl rfl
    have e : b = mpV g := this
    subst e
    rfl
/-- What a call hands back whose second answer is a map of one's own. -/
theorem HX.finMap {P : Program} {N : Nat} {fn : Func} {w0 : World} {G0 : Imm} {S0 : Nat → Nat → Prop} {E : Env} {L : List Res} {x : Exit} (he : endB x = true) {T U : Ty} {g n : Nat} {k e : TypeId} {α : Type} {f : α → Ty} {m : Lit → α} {is : List (List Nat)} (hr : ResR P L E fn.results.toList [U, Is (mpV g)]) (hp : PickX L is [ownMp P k e g n f m]) (hd : distinct is.flatten = true) (hT : Sub U T) :
    HX (FC P N w0 G0 S0) E L (bodyPost P fn (RetR w0 G0 S0 (fun v => TTup [T, Is (mpV (sndM v))]) (fun v => [ownMp P k e (sndM v) n f m]))) x :=
  HX.finG is (endB.or he) hr (fun G v h => by
    have h' : (TTup [U, Is (mpV g)]).p G v := h
    have := sndM_at h'
    rw [this]
    exact ⟨Sub.tup1 hT (Sub.refl _) G v h', hp⟩) hd
end Go.Vk
