/-
  The rules as the proofs' steps use them. Nothing here speaks of a program; no conditions.
-/
import Derived.Test.YtibabbepnhpaiaaVp
set_option linter.unusedVariables false
namespace Go.Vk

section
variable {F : FCtx} {E : Env} {L : List Res} {Q : Exit → Act → World → Prop} {ops : Array Oper} {o : Oper} {rest : List Oper}
theorem RegS.nil (h : HX F E L Q .normal) : RegS F ops Q [] E L := h
theorem RegS.p {T : Ty} (hd : dstB F.N o = true) (hop : OpG F.P ops L E o T) (h : RegS F ops Q rest (E.put o.dst T) L) : RegS F ops Q (o :: rest) E L := .inl ⟨T, hd, hop, h⟩
theorem RegS.f {T : Ty} (hd : dstB F.N o = true) (hg : o.guard = none) (hop : OpP F.P L E o T) (h : RegS F ops Q rest (E.put o.dst T) L) : RegS F ops Q (o :: rest) E L := .inl ⟨T, hd, .free hg hop, h⟩
theorem RegS.g {T : Ty} {j : Nat} {want b : Bool} {d : Nat} (hd : dstB F.N o = true) (hg : o.guard = some (j, want)) (hj : (ops[j]?).bind (·.dst) = some d) (he : E.get d = some (Is (.bool b))) (hop : b = want → OpP F.P L E o T) (h : RegS F ops Q rest (E.put o.dst (TIf (b = want) T)) L) : RegS F ops Q (o :: rest) E L :=
  .inl ⟨_, hd, .guarded hg hj he (.is b want) hop, h⟩
theorem RegS.c {T : Value → Ty} {L' : Value → List Res} (hg : o.guard = none) (hd : dstB F.N o = true) (hop : OpC F.P L E o T L') (h : ∀ v, RegS F ops Q rest (E.put o.dst (T v)) (L' v)) : RegS F ops Q (o :: rest) E L := .inr ⟨T, L', .inl hg, hd, hop, h⟩
theorem RegS.cg {d' : Nat} {op : Op} {ty : TypeId} {pos : String} {after : Array Edge} {j : Nat} {want b : Bool} {d : Nat} {T : Value → Ty} {L' : Value → List Res} (hd : Nat.blt d' F.N = true) (hj : (ops[j]?).bind (·.dst) = some d) (he : E.get d = some (Is (.bool b))) (hb : b = want) (hop : OpC F.P L E ⟨some d', op, ty, pos, after, some (j, want)⟩ T L') (h : ∀ v, RegS F ops Q rest ((d', T v) :: E) (L' v)) : RegS F ops Q (⟨some d', op, ty, pos, after, some (j, want)⟩ :: rest) E L := .inr ⟨T, L', .inr ⟨j, want, d, _, _, rfl, hj, he, .is b want, hb⟩, hd, hop, h⟩
/-- A guard that is known to say yes. -/
theorem RegS.gt {d' : Nat} {op : Op} {ty : TypeId} {pos : String} {after : Array Edge} {j : Nat} {want b : Bool} {d : Nat} (hd : Nat.blt d' F.N = true) (hj : (ops[j]?).bind (·.dst) = some d) (he : E.get d = some (Is (.bool b))) (hb : b = want) (h : ∃ T, OpP F.P L E ⟨some d', op, ty, pos, after, some (j, want)⟩ T ∧ RegS F ops Q rest ((d', T) :: E) L) : RegS F ops Q (⟨some d', op, ty, pos, after, some (j, want)⟩ :: rest) E L :=
  let ⟨_, h1, h2⟩ := h; .cg hd hj he hb (.of_P h1) (fun _ => h2)
theorem RegS.fe {d : Nat} {op : Op} {ty : TypeId} {pos : String} {after : Array Edge} (hd : Nat.blt d F.N = true) (h : ∃ T, OpP F.P L E ⟨some d, op, ty, pos, after, none⟩ T ∧ RegS F ops Q rest ((d, T) :: E) L) : RegS F ops Q (⟨some d, op, ty, pos, after, none⟩ :: rest) E L := let ⟨_, h1, h2⟩ := h; .f hd rfl h1 h2
theorem RegS.fn {op : Op} {ty : TypeId} {pos : String} {after : Array Edge} (h : ∃ T, OpP F.P L E ⟨none, op, ty, pos, after, none⟩ T ∧ RegS F ops Q rest E L) : RegS F ops Q (⟨none, op, ty, pos, after, none⟩ :: rest) E L := let ⟨_, h1, h2⟩ := h; .f rfl rfl h1 h2
theorem RegS.ge {d' : Nat} {op : Op} {ty : TypeId} {pos : String} {after : Array Edge} {j : Nat} {want b : Bool} {d : Nat} (hd : Nat.blt d' F.N = true) (hj : (ops[j]?).bind (·.dst) = some d) (he : E.get d = some (Is (.bool b))) (h : ∃ T, (b = want → OpP F.P L E ⟨some d', op, ty, pos, after, some (j, want)⟩ T) ∧ RegS F ops Q rest ((d', TIf (b = want) T) :: E) L) : RegS F ops Q (⟨some d', op, ty, pos, after, some (j, want)⟩ :: rest) E L := let ⟨_, h1, h2⟩ := h; .g hd rfl hj he h1 h2
theorem RegS.ce {d : Nat} {op : Op} {ty : TypeId} {pos : String} {after : Array Edge} {T : Value → Ty} {L' : Value → List Res} (hd : Nat.blt d F.N = true) (hop : OpC F.P L E ⟨some d, op, ty, pos, after, none⟩ T L') (h : ∀ v, RegS F ops Q rest ((d, T v) :: E) (L' v)) : RegS F ops Q (⟨some d, op, ty, pos, after, none⟩ :: rest) E L := .c rfl hd hop h
theorem RegS.gn {d' : Nat} {op : Op} {ty : TypeId} {pos : String} {after : Array Edge} {j : Nat} {want b : Bool} {d : Nat} {c : Prop} (hd : Nat.blt d' F.N = true) (hj : (ops[j]?).bind (·.dst) = some d) (he : E.get d = some (TIf c (Is (.bool b)))) (h : ∃ T, (c ∧ b = want → OpP F.P L E ⟨some d', op, ty, pos, after, some (j, want)⟩ T) ∧ RegS F ops Q rest ((d', TIf (c ∧ b = want) T) :: E) L) : RegS F ops Q (⟨some d', op, ty, pos, after, some (j, want)⟩ :: rest) E L :=
  let ⟨_, h1, h2⟩ := h; .inl ⟨_, hd, .guarded rfl hj he (.nest c b want) h1, h2⟩
theorem HX.then {y : Code} (h : HT F E L y Q) : HX F E L (Exit.then (y.wp F.P Q) Q) .normal := h
theorem HX.then_ret {K : Act → World → Prop} (h : HX F E L Q .ret) : HX F E L (Exit.then K Q) .ret := h
theorem HX.then_exit {K : Act → World → Prop} {id : Nat} (h : HX F E L Q (.exit id)) : HX F E L (Exit.then K Q) (.exit id) := h
theorem HX.block_normal {id : Nat} (h : HX F E L Q .normal) : HX F E L (Exit.inBlock id Q) .normal := h
theorem HX.block_ret {id : Nat} (h : HX F E L Q .ret) : HX F E L (Exit.inBlock id Q) .ret := h
theorem HX.block_hit {id : Nat} (h : HX F E L Q .normal) : HX F E L (Exit.inBlock id Q) (.exit id) := fun a w G S hi ht => by
  show if id = id then Q .normal a w else Q (.exit id) a w
  rw [if_pos rfl]; exact h a w G S hi ht
theorem HX.block_miss {id id' : Nat} (hne : Nat.beq id' id = false) (h : HX F E L Q (.exit id')) : HX F E L (Exit.inBlock id Q) (.exit id') := fun a w G S hi ht => by
  show if id' = id then Q .normal a w else Q (.exit id') a w
  rw [if_neg (fun e => by subst e; simp at hne)]; exact h a w G S hi ht
theorem HT.condD {c : Operand} {x y : Code} {p : Prop} [Decidable p] (hc : Opd E c = some (Is (.bool (decide p)))) (hx : p → HT F E L x Q) (hy : ¬ p → HT F E L y Q) : HT F E L (.cond c x y) Q :=
  HT.cond hc (fun h => hx (of_decide_eq_true h)) (fun h => hy (of_decide_eq_false h))
/-- What is said outright at a joint. -/
theorem HX.mid {σ : Type} {E' : σ → Env} {L' : σ → List Res} {I : σ → Prop} {e : Exit} (s : σ) (hI : I s) (hE : ∀ t T, (E' s).get t = some T → ∃ U, E.get t = some U ∧ Sub U T) (hL : L' s = L) : HX F E L (fun _ a w => ∃ s G S, I s ∧ Inv F (L' s) G w S ∧ Typed F.N (E' s) G a) e :=
  fun a w G S hi ht => ⟨s, G, S, hI, by rw [hL]; exact hi, ht.size, ht.defers, fun t T h => let ⟨U, h1, h2⟩ := hE t T h; h2 _ _ (ht.get t U h1)⟩
/-- Each slot that E' names is as it says. -/
def SubE (E : Env) : Env → Prop
  | [] => True
  | (t, T) :: r => (∃ U, E.get t = some U ∧ Sub U T) ∧ SubE E r
theorem SubE.get {E : Env} : ∀ {E' : Env}, SubE E E' → ∀ t T, E'.get t = some T → ∃ U, E.get t = some U ∧ Sub U T
  | [], _, _, _, h => by cases h
  | (k, V) :: r, hs, t, T, h => by
    simp only [Env.get] at h
    by_cases hk : Nat.beq k t = true
    · have := Nat.eq_of_beq_eq_true hk
      subst this
      rw [hk] at h; simp at h; subst h
      exact hs.1
    · simp only [Bool.not_eq_true] at hk; rw [hk] at h
      exact SubE.get hs.2 t T h
theorem Typed.sub {N : Nat} {E E' : Env} {G : Imm} {a : Act} (h : Typed N E G a) (hs : SubE E E') : Typed N E' G a :=
  ⟨h.size, h.defers, fun t T e => let ⟨U, h1, h2⟩ := hs.get t T e; h2 _ _ (h.get t U h1)⟩
theorem HX.atLoop {σ : Type} {E' : σ → Env} {L' : σ → List Res} {I : σ → Prop} {Q : Exit → Act → World → Prop} (s : σ) (hI : I s) (hE : SubE E (E' s)) (hL : L' s = L) : HX F E L (fun _ a w => ∃ s G S, I s ∧ Inv F (L' s) G w S ∧ Typed F.N (E' s) G a) .normal :=
  fun a w G S hi ht => ⟨s, G, S, hI, by rw [hL]; exact hi, ht.sub hE⟩
theorem HX.round {σ : Type} {E' : σ → Env} {L' : σ → List Res} {I : σ → Prop} (s : σ) (hI : I s) (hE : SubE E (E' s)) (hL : L' s = L) : HX F E L (Exit.then (fun a w => ∃ s G S, I s ∧ Inv F (L' s) G w S ∧ Typed F.N (E' s) G a) Q) .normal :=
  fun a w G S hi ht => ⟨s, G, S, hI, by rw [hL]; exact hi, ht.sub hE⟩
/-- The state is known better. -/
theorem HT.sub {E' : Env} {c : Code} (hs : SubE E E') (h : HT F E' L c Q) : HT F E L c Q := fun a w G S hi ht => h a w G S hi (ht.sub hs)
theorem HX.sub {E' : Env} {e : Exit} (hs : SubE E E') (h : HX F E' L Q e) : HX F E L Q e := fun a w G S hi ht => h a w G S hi (ht.sub hs)
theorem SubE.cons {t : Nat} {T U : Ty} {r : Env} (h : E.get t = some U) (h2 : Sub U T) (h3 : SubE E r) : SubE E ((t, T) :: r) := ⟨⟨U, h, h2⟩, h3⟩
theorem Sub.of_eq {T U : Ty} (h : T = U) : Sub T U := fun _ _ k => h ▸ k
theorem Sub.is {v u : Value} (h : v = u) : Sub (Is v) (Is u) := fun _ _ k => h ▸ k
theorem Sub.i64 {m n : Int} (h : m = n) : Sub (okI .i64 m) (okI .i64 n) := fun _ _ k => h ▸ k
theorem Sub.int {k : IntKind} {m n : Int} (h : m = n) : Sub (okI k m) (okI k n) := fun _ _ k => h ▸ k
theorem Sub.bool {m n : Bool} (h : m = n) : Sub (Is (.bool m)) (Is (.bool n)) := fun _ _ k => h ▸ k
theorem Sub.str {m n : List UInt8} (h : m = n) : Sub (Is (str m)) (Is (str n)) := fun _ _ k => h ▸ k
theorem Sub.sl {α : Type} {sz : Nat} {f : α → List Ty} {l m : List α} (h : l = m) : Sub (TSl sz f l) (TSl sz f m) := fun _ _ k => h ▸ k
theorem Sub.slx {α : Type} {sz : Nat} {f : α → List Ty} {l m : List α} (h : l = m) : Sub (TSlX sz f l) (TSl sz f m) := fun _ _ k => h ▸ TSlX.sl k
theorem Sub.nil' {α : Type} {sz : Nat} {f : α → List Ty} {l : List α} (h : [] = l) : Sub (Is (.slice none 0 0)) (TSl sz f l) := h ▸ Sub.nil sz f
theorem Sub.own {v : Value} {T U : Ty} (h : Sub T U) : Sub (TAnd (Is v) T) (TAnd (Is v) U) := fun _ _ k => ⟨k.1, h _ _ k.2⟩
theorem Sub.tup1 {A A' : Ty} {B : List Ty} {B' : List Ty} (h1 : Sub A A') (h2 : Sub (TTup B) (TTup B')) : Sub (TTup (A :: B)) (TTup (A' :: B')) := by
  rintro G v ⟨vs, rfl, hl, h⟩
  obtain ⟨u, us, rfl⟩ : ∃ u us, vs = u :: us := by cases vs with | nil => simp at hl | cons u us => exact ⟨u, us, rfl⟩
  have hB : (TTup B).p G (.tuple us.toArray) := ⟨us, rfl, by simpa using hl, fun j T w e1 e2 => h (j + 1) T w (by simpa using e1) (by simpa using e2)⟩
  obtain ⟨us', e, hl', h'⟩ := h2 _ _ hB
  have : us = us' := by simpa using e
  subst this
  refine ⟨u :: us, rfl, by simp [hl'], fun j T w e1 e2 => ?_⟩
  cases j with
  | zero => simp at e1 e2; subst e1; subst e2; exact h1 _ _ (h 0 A u rfl rfl)
  | succ j => exact h' j T w (by simpa using e1) (by simpa using e2)
theorem Sub.tup0 : Sub (TTup []) (TTup []) := Sub.refl _
theorem RetT.one {fn : Func} {t : Tmp} {T U : Ty} (hr : fn.results.toList = [.tmp t]) (h : E.get t = some U) (hs : Sub U T) : RetT E fn.results.toList T := by
  rw [hr]; exact ⟨U, h, hs⟩
theorem RetT.many {fn : Func} {ts : List Tmp} {Us : List Ty} {T : Ty} (hr : fn.results.toList = ts.map ResultVar.tmp) (h1 : Nat.beq ts.length 1 = false) (h : Opds E (ts.map Operand.tmp) Us) (hs : Sub (TTup Us) T) : RetT E fn.results.toList T := by
  rw [hr]
  have h1' : ts.length ≠ 1 := fun e => by rw [e] at h1; cases h1
  unfold RetT
  split
  · rename_i rs t e
    have := congrArg List.length e
    simp at this; exact absurd this h1'
  · exact ⟨ts, Us, rfl, h1', h, hs⟩
def oneOf : List ResultVar → Tmp
  | .tmp t :: _ => t
  | _ => 0
theorem RetT.oneA {fn : Func} {T U : Ty} (hr : fn.results.toList = [.tmp (oneOf fn.results.toList)]) (h : E.get (oneOf fn.results.toList) = some U) (hs : Sub U T) : RetT E fn.results.toList T := RetT.one hr h hs
def tmpsOf : List ResultVar → List Tmp
  | .tmp t :: r => t :: tmpsOf r
  | _ => []
theorem RetT.manyA {fn : Func} {Us : List Ty} {T : Ty} (hr : fn.results.toList = (tmpsOf fn.results.toList).map ResultVar.tmp) (h1 : Nat.beq (tmpsOf fn.results.toList).length 1 = false) (h : Opds E ((tmpsOf fn.results.toList).map Operand.tmp) Us) (hs : Sub (TTup Us) T) : RetT E fn.results.toList T :=
  RetT.many hr h1 h hs
end

section
variable {P : Program} {L : List Res} {E : Env} {dst : Option Tmp} {ty : TypeId} {pos : String} {after : Array Edge} {gd : Option (Nat × Bool)}
/-- An element, by its place. -/
theorem op_indexD {x i : Operand} {α : Type} [Inhabited α] {sz : Nat} {f : α → List Ty} {l : List α} {n : Int} {k : IntKind} {t e : TypeId} (hx : Opd E x = some (TSl sz f l)) (hi : Opd E i = some (okI k n)) (hu : P.underlying t = some (.slice e)) (hsz : P.cellsOf e = sz) (hinf : (P.info? e).isSome = true)
    (h : 0 ≤ n ∧ n < (l.length : Int)) : OpP P L E ⟨dst, .indexAddr t x i, ty, pos, after, gd⟩ (TPc (f (l.getD n.toNat default))) :=
  op_index hx hi hu hsz hinf h.1 h.2 (by
    have : n.toNat < l.length := by omega
    simp [List.getD_eq_getElem?_getD, List.getElem?_eq_getElem this])
/-- byte(n). -/
def b8 (n : Int) : UInt8 := UInt8.ofNat (n % 256).toNat
theorem b8_toNat (n : Int) : ((b8 n).toNat : Int) = n % 256 := by
  unfold b8
  have h : (n % 256).toNat < 256 := by omega
  simp [UInt8.toNat_ofNat', Nat.mod_eq_of_lt h]
  omega
theorem op_byte {x : Operand} {k : IntKind} {m : Int} {st dt : TypeId} {ds : TypeDesc} (hx : Opd E x = some (okI k m)) (hs : P.underlying st = some ds) (hd : P.underlying dt = some (.int .u8)) : OpP P L E ⟨dst, .convert st dt x, ty, pos, after, gd⟩ (okI .u8 ((b8 m).toNat : Int)) := by
  have := op_convi (P := P) (L := L) (dst := dst) (ty := ty) (pos := pos) (after := after) (gd := gd) hx hs hd
  rwa [show IntKind.u8.wrap m = ((b8 m).toNat : Int) from by rw [b8_toNat, IntKind.wrap_u8]] at this
theorem CellsOf.b8 {m : Int} (h : 0 ≤ m ∧ m < 256) : CellsOf (okI .u8 m) (cB (b8 m)) := by
  have e : ((Vk.b8 m).toNat : Int) = m := by rw [b8_toNat]; omega
  unfold cB
  rw [e]
  exact .is rfl rfl
end
end Go.Vk
