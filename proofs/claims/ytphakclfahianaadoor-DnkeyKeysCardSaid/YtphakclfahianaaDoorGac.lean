/-
  The rules as the proofs' steps use them. Nothing here speaks of a program; no conditions.
  A region that draws its order: whatever order its edges allow, if each operation only reads or lays new blocks. Nothing here speaks of a program; no conditions.
  More rules for single operations: bytes' bits, slices' bounds, nil, strings. Nothing here speaks of a program; no conditions.
  The steps of the rules with and without a guard in one form. Nothing here speaks of a program; no conditions.
-/
import Derived.Test.YtphakclfahianaaDoorGab
set_option linter.unusedSimpArgs false
set_option linter.unusedVariables false
set_option linter.unusedVariables false
namespace Go.Vk

section
variable {F : FCtx} {E : Env} {L : List Res} {Q : Exit → Act → World → Prop} {ops : Array Oper} {o : Oper} {rest : List Oper}
theorem RegS.nil (h : HX F E L Q .normal) : RegS F ops Q [] E L := h
theorem RegS.p {T : Ty} (hd : dstB F.N o = true) (hop : OpG F.P ops L E o T) (h : RegS F ops Q rest (E.put o.dst T) L) : RegS F ops Q (o :: rest) E L := .inl ⟨T, hd, hop, h⟩
theorem RegS.f {T : Ty} (hd : dstB F.N o = true) (hg : o.guard = none) (hop : OpP F.P L E o T) (h : RegS F ops Q rest (E.put o.dst T) L) : RegS F ops Q (o :: rest) E L := .inl ⟨T, hd, .free hg hop, h⟩
theorem RegS.g {T : Ty} {j : Nat} {want b : Bool} {d : Nat} (hd : dstB F.N o = true) (hg : o.guard = some (j, want)) (hj : (ops[j]?).bind (·.dst) = some d) (he : E.get d = some (Is (.bool b))) (hop : b = want → OpP F.P L E o T) (h : RegS F ops Q rest (E.put o.dst (TIf (b = want) T)) L) : RegS F ops Q (o :: rest) E L :=
  .inl ⟨_, hd, .guarded hg hj he (.is b want) hop, h⟩
theorem RegS.c {T : Value → Ty} {L' : Value → List Res} (hg : o.guard = none) (hd : dstB F.N o = true) (hop : OpC F.P L E o T L') (h : ∀ v, RegS F ops Q rest (E.put o.dst (T v)) (L' v)) : RegS F ops Q (o :: rest) E L := .inr ⟨T, L', .inl hg, hd, hop, h⟩
theorem RegS.cg {d' : Nat} {op : Op} {ty : TypeId} {pos : String} {after : Array Edge} {j : Nat} {want b : Bool} {d : Nat} {T : Value → Ty} {L' : Value → List Res} (hd : Nat.blt d' F.N = true) (hj : (ops[j]?).bind (·.dst) = some d) (he : E.get d = some (Is (.bool b))) (hb : b = want) (hop : OpC F.P L E ⟨some d', op, ty, pos, after, some (j, want)⟩ T L') (h : ∀ v, RegS F ops Q rest ((d', T v) :: E) (L' v)) : RegS F ops Q (⟨some d', op, ty, pos, after, some (j, want)⟩ :: rest) E L := .inr ⟨T, L', .inr ⟨j, want, d, _, _, rfl, hj, he, .is b want, hb⟩, hd, hop, h⟩
/-- A guard that is known to say yes. -/
theorem RegS.gt {d' : Nat} {op : Op} {ty : TypeId} {pos : String} {after : Array Edge} {j : Nat} {want b : Bool} {d : Nat} (hd : Nat.blt d' F.N = true) (hj : (ops[j]?).bind (·.dst) = some d) (he : E.get d = some (Is (.bool b))) (hb : b = want) (h : ∃ T, OpP F.P L E ⟨some d', op, ty, pos, after, some (j, want)⟩ T ∧ RegS F ops Q rest ((d', T) :: E) L) : RegS F ops Q (⟨some d', op, ty, pos, after, some (j, want)⟩ :: rest) E L :=
  let ⟨_, h1, h2⟩ := h; .cg hd hj he hb (.of_P h1) (fun _ => h2)
theorem RegS.fe {d : Nat} {op : Op} {ty : TypeId} {pos : String} {after : Array Edge} (hd : Nat.blt d F.N = true) (h : ∃ T, OpP F.P L E ⟨some d, op, ty, pos, after, none⟩ T ∧ RegS F ops Q rest ((d, T) :: E) L) : RegS F ops Q (⟨some d, op, ty, pos, after, none⟩ :: rest) E L := let ⟨_, h1, h2⟩ := h; .f hd rfl h1 h2
theorem RegS.fn {op : Op} {ty : TypeId} {pos : String} {after : Array Edge} (h : ∃ T, OpP F.P L E ⟨none, op, ty, pos, after, none⟩ T ∧ RegS F ops Q rest E L) : RegS F ops Q (⟨none, op, ty, pos, after, none⟩ :: rest) E L := let ⟨_, h1, h2⟩ := h; .f rfl rfl h1 h2
theorem RegS.ge {d' : Nat} {op : Op} {ty : TypeId} {pos : String} {after : Array Edge} {j : Nat} {want b : Bool} {d : Nat} (hd : Nat.blt d' F.N = true) (hj : (ops[j]?).bind (·.dst) = some d) (he : E.get d = some (Is (.bool b))) (h : ∃ T, (b = want → OpP F.P L E ⟨some d', op, ty, pos, after, some (j, want)⟩ T) ∧ RegS F ops Q rest ((d', TIf (b = want) T) :: E) L) : RegS F ops Q (⟨some d', op, ty, pos, after, some (j, want)⟩ :: rest) E L := let ⟨_, h1, h2⟩ := h; .g hd rfl hj he h1 h2
theorem RegS.ce {d : Nat} {op : Op} {ty : TypeId} {pos : String} {after : Array Edge} {T : Value → Ty} {L' : Value → List Res} (hd : Nat.blt d F.N = true) (hop : OpC F.P L E ⟨some d, op, ty, pos, after, none⟩ T L') (h : ∀ v, RegS F ops Q rest ((d, T v) :: E) (L' v)) : RegS F ops Q (⟨some d, op, ty, pos, after, none⟩ :: rest) E L := .c rfl hd hop h
theorem RegS.gn {d' : Nat} {op : Op} {ty : TypeId} {pos : String} {after : Array Edge} {j : Nat} {want b : Bool} {d : Nat} {c : Prop} (hd : Nat.blt d' F.N = true) (hj : (ops[j]?).bind (·.dst) = some d) (he : E.get d = some (TIf c (Is (.bool b)))) (h : ∃ T, (c ∧ b = want → OpP F.P L E ⟨some d', op, ty, pos, after, some (j, want)⟩ T) ∧ RegS F ops Q rest ((d', TIf (c ∧ b = want) T) :: E) L) : RegS F ops Q (⟨some d', op, ty, pos, after, some (j, want)⟩ :: rest) E L :=
  let ⟨_, h1, h2⟩ := h; .inl ⟨_, hd, .guarded rfl hj he (.nest c b want) h1, h2⟩
theorem HX.then {y : Code} (h : HT F E L y Q) : HX F E L (Exit.then (y.wp F.P Q) Q) .normal := h
theorem HX.then_ret {K : Act → World → Prop} (h : HX F E L Q .ret) : HX F E L (Exit.then K Q) .ret := h
theorem HX.then_exit {K : Act → World → Prop} {id : Nat} (h : HX F E L Q (.exit id)) : HX F E L (Exit.then K Q) (.exit id) := h
theorem HX.block_normal {id : Nat} (h : HX F E L Q .normal) : HX F E L (Exit.inBlock id Q) .normal := h
theorem HX.block_ret {id : Nat} (h : HX F E L Q .ret) : HX F E L (Exit.inBlock id Q) .ret := h
theorem HX.block_hit {id : Nat} (h : HX F E L Q .normal) : HX F E L (Exit.inBlock id Q) (.exit id) := fun a w G S hi ht => by
  show if id = id then Q .normal a w else Q (.exit id) a w
  rw [if_pos rfl]; exact h a w G S hi ht
theorem HX.block_miss {id id' : Nat} (hne : Nat.beq id' id = false) (h : HX F E L Q (.exit id')) : HX F E L (Exit.inBlock id Q) (.exit id') := fun a w G S hi ht => by
  show if id' = id then Q .normal a w else Q (.exit id') a w
  rw [if_neg (fun e => by subst e; simp at hne)]; exact h a w G S hi ht
theorem HT.condD {c : Operand} {x y : Code} {p : Prop} [Decidable p] (hc : Opd E c = some (Is (.bool (decide p)))) (hx : p → HT F E L x Q) (hy : ¬ p → HT F E L y Q) : HT F E L (.cond c x y) Q :=
  HT.cond hc (fun h => hx (of_decide_eq_true h)) (fun h => hy (of_decide_eq_false h))
/-- What is said outright at a joint. -/
theorem HX.mid {σ : Type} {E' : σ → Env} {L' : σ → List Res} {I : σ → Prop} {e : Exit} (s : σ) (hI : I s) (hE : ∀ t T, (E' s).get t = some T → ∃ U, E.get t = some U ∧ Sub U T) (hL : L' s = L) : HX F E L (fun _ a w => ∃ s G S, I s ∧ Inv F (L' s) G w S ∧ Typed F.N (E' s) G a) e :=
  fun a w G S hi ht => ⟨s, G, S, hI, by rw [hL]; exact hi, ht.size, ht.defers, fun t T h => let ⟨U, h1, h2⟩ := hE t T h; h2 _ _ (ht.get t U h1)⟩
/-- Each slot that E' names is as it says. -/
def SubE (E : Env) : Env → Prop
  | [] => True
  | (t, T) :: r => (∃ U, E.get t = some U ∧ Sub U T) ∧ SubE E r
theorem SubE.get {E : Env} : ∀ {E' : Env}, SubE E E' → ∀ t T, E'.get t = some T → ∃ U, E.get t = some U ∧ Sub U T
  | [], _, _, _, h => by cases h
  | (k, V) :: r, hs, t, T, h => by
    simp only [Env.get] at h
    by_cases hk : Nat.beq k t = true
    · have := Nat.eq_of_beq_eq_true hk
      subst this
      rw [hk] at h; simp at h; subst h
      exact hs.1
    · simp only [Bool.not_eq_true] at hk; rw [hk] at h
      exact SubE.get hs.2 t T h
theorem Typed.sub {N : Nat} {E E' : Env} {G : Imm} {a : Act} (h : Typed N E G a) (hs : SubE E E') : Typed N E' G a :=
  ⟨h.size, h.defers, fun t T e => let ⟨U, h1, h2⟩ := hs.get t T e; h2 _ _ (h.get t U h1)⟩
theorem HX.atLoop {σ : Type} {E' : σ → Env} {L' : σ → List Res} {I : σ → Prop} {Q : Exit → Act → World → Prop} (s : σ) (hI : I s) (hE : SubE E (E' s)) (hL : L' s = L) : HX F E L (fun _ a w => ∃ s G S, I s ∧ Inv F (L' s) G w S ∧ Typed F.N (E' s) G a) .normal :=
  fun a w G S hi ht => ⟨s, G, S, hI, by rw [hL]; exact hi, ht.sub hE⟩
theorem HX.round {σ : Type} {E' : σ → Env} {L' : σ → List Res} {I : σ → Prop} (s : σ) (hI : I s) (hE : SubE E (E' s)) (hL : L' s = L) : HX F E L (Exit.then (fun a w => ∃ s G S, I s ∧ Inv F (L' s) G w S ∧ Typed F.N (E' s) G a) Q) .normal :=
  fun a w G S hi ht => ⟨s, G, S, hI, by rw [hL]; exact hi, ht.sub hE⟩
/-- The state is known better. -/
theorem HT.sub {E' : Env} {c : Code} (hs : SubE E E') (h : HT F E' L c Q) : HT F E L c Q := fun a w G S hi ht => h a w G S hi (ht.sub hs)
theorem HX.sub {E' : Env} {e : Exit} (hs : SubE E E') (h : HX F E' L Q e) : HX F E L Q e := fun a w G S hi ht => h a w G S hi (ht.sub hs)
theorem SubE.cons {t : Nat} {T U : Ty} {r : Env} (h : E.get t = some U) (h2 : Sub U T) (h3 : SubE E r) : SubE E ((t, T) :: r) := ⟨⟨U, h, h2⟩, h3⟩
theorem Sub.of_eq {T U : Ty} (h : T = U) : Sub T U := fun _ _ k => h ▸ k
theorem Sub.is {v u : Value} (h : v = u) : Sub (Is v) (Is u) := fun _ _ k => h ▸ k
theorem Sub.i64 {m n : Int} (h : m = n) : Sub (okI .i64 m) (okI .i64 n) := fun _ _ k => h ▸ k
theorem Sub.int {k : IntKind} {m n : Int} (h : m = n) : Sub (okI k m) (okI k n) := fun _ _ k => h ▸ k
theorem Sub.bool {m n : Bool} (h : m = n) : Sub (Is (.bool m)) (Is (.bool n)) := fun _ _ k => h ▸ k
theorem Sub.str {m n : List UInt8} (h : m = n) : Sub (Is (str m)) (Is (str n)) := fun _ _ k => h ▸ k
theorem Sub.sl {α : Type} {sz : Nat} {f : α → List Ty} {l m : List α} (h : l = m) : Sub (TSl sz f l) (TSl sz f m) := fun _ _ k => h ▸ k
theorem Sub.slx {α : Type} {sz : Nat} {f : α → List Ty} {l m : List α} (h : l = m) : Sub (TSlX sz f l) (TSl sz f m) := fun _ _ k => h ▸ TSlX.sl k
theorem Sub.nil' {α : Type} {sz : Nat} {f : α → List Ty} {l : List α} (h : [] = l) : Sub (Is (.slice none 0 0)) (TSl sz f l) := h ▸ Sub.nil sz f
theorem Sub.own {v : Value} {T U : Ty} (h : Sub T U) : Sub (TAnd (Is v) T) (TAnd (Is v) U) := fun _ _ k => ⟨k.1, h _ _ k.2⟩
theorem Sub.tup1 {A A' : Ty} {B : List Ty} {B' : List Ty} (h1 : Sub A A') (h2 : Sub (TTup B) (TTup B')) : Sub (TTup (A :: B)) (TTup (A' :: B')) := by
  rintro G v ⟨vs, rfl, hl, h⟩
  obtain ⟨u, us, rfl⟩ : ∃ u us, vs = u :: us := by cases vs with | nil => simp at hl | cons u us => exact ⟨u, us, rfl⟩
  have hB : (TTup B).p G (.tuple us.toArray) := ⟨us, rfl, by simpa using hl, fun j T w e1 e2 => h (j + 1) T w (by simpa using e1) (by simpa using e2)⟩
  obtain ⟨us', e, hl', h'⟩ := h2 _ _ hB
  have : us = us' := by simpa using e
  subst this
  refine ⟨u :: us, rfl, by simp [hl'], fun j T w e1 e2 => ?_⟩
  cases j with
  | zero => simp at e1 e2; subst e1; subst e2; exact h1 _ _ (h 0 A u rfl rfl)
  | succ j => exact h' j T w (by simpa using e1) (by simpa using e2)
theorem Sub.tup0 : Sub (TTup []) (TTup []) := Sub.refl _
theorem RetT.one {fn : Func} {t : Tmp} {T U : Ty} (hr : fn.results.toList = [.tmp t]) (h : E.get t = some U) (hs : Sub U T) : RetT E fn.results.toList T := by
  rw [hr]; exact ⟨U, h, hs⟩
theorem RetT.many {fn : Func} {ts : List Tmp} {Us : List Ty} {T : Ty} (hr : fn.results.toList = ts.map ResultVar.tmp) (h1 : Nat.beq ts.length 1 = false) (h : Opds E (ts.map Operand.tmp) Us) (hs : Sub (TTup Us) T) : RetT E fn.results.toList T := by
  rw [hr]
  have h1' : ts.length ≠ 1 := fun e => by rw [e] at h1; cases h1
  unfold RetT
  split
  · rename_i rs t e
    have := congrArg List.length e
    simp at this; exact absurd this h1'
  · exact ⟨ts, Us, rfl, h1', h, hs⟩
def oneOf : List ResultVar → Tmp
  | .tmp t :: _ => t
  | _ => 0
theorem RetT.oneA {fn : Func} {T U : Ty} (hr : fn.results.toList = [.tmp (oneOf fn.results.toList)]) (h : E.get (oneOf fn.results.toList) = some U) (hs : Sub U T) : RetT E fn.results.toList T := RetT.one hr h hs
def tmpsOf : List ResultVar → List Tmp
  | .tmp t :: r => t :: tmpsOf r
  | _ => []
theorem RetT.manyA {fn : Func} {Us : List Ty} {T : Ty} (hr : fn.results.toList = (tmpsOf fn.results.toList).map ResultVar.tmp) (h1 : Nat.beq (tmpsOf fn.results.toList).length 1 = false) (h : Opds E ((tmpsOf fn.results.toList).map Operand.tmp) Us) (hs : Sub (TTup Us) T) : RetT E fn.results.toList T :=
  RetT.many hr h1 h hs
end

section
variable {P : Program} {L : List Res} {E : Env} {dst : Option Tmp} {ty : TypeId} {pos : String} {after : Array Edge} {gd : Option (Nat × Bool)}
/-- An element, by its place. -/
theorem op_indexD {x i : Operand} {α : Type} [Inhabited α] {sz : Nat} {f : α → List Ty} {l : List α} {n : Int} {k : IntKind} {t e : TypeId} (hx : Opd E x = some (TSl sz f l)) (hi : Opd E i = some (okI k n)) (hu : P.underlying t = some (.slice e)) (hsz : P.cellsOf e = sz) (hinf : (P.info? e).isSome = true)
    (h : 0 ≤ n ∧ n < (l.length : Int)) : OpP P L E ⟨dst, .indexAddr t x i, ty, pos, after, gd⟩ (TPc (f (l.getD n.toNat default))) :=
  op_index hx hi hu hsz hinf h.1 h.2 (by
    have : n.toNat < l.length := by omega
    simp [List.getD_eq_getElem?_getD, List.getElem?_eq_getElem this])
/-- byte(n). -/
def b8 (n : Int) : UInt8 := UInt8.ofNat (n % 256).toNat
theorem b8_toNat (n : Int) : ((b8 n).toNat : Int) = n % 256 := by
  unfold b8
  have h : (n % 256).toNat < 256 := by omega
  simp [UInt8.toNat_ofNat', Nat.mod_eq_of_lt h]
  omega
theorem op_byte {x : Operand} {k : IntKind} {m : Int} {st dt : TypeId} {ds : TypeDesc} (hx : Opd E x = some (okI k m)) (hs : P.underlying st = some ds) (hd : P.underlying dt = some (.int .u8)) : OpP P L E ⟨dst, .convert st dt x, ty, pos, after, gd⟩ (okI .u8 ((b8 m).toNat : Int)) := by
  have := op_convi (P := P) (L := L) (dst := dst) (ty := ty) (pos := pos) (after := after) (gd := gd) hx hs hd
  rwa [show IntKind.u8.wrap m = ((b8 m).toNat : Int) from by rw [b8_toNat, IntKind.wrap_u8]] at this
theorem CellsOf.b8 {m : Int} (h : 0 ≤ m ∧ m < 256) : CellsOf (okI .u8 m) (cB (b8 m)) := by
  have e : ((Vk.b8 m).toNat : Int) = m := by rw [b8_toNat]; omega
  unfold cB
  rw [e]
  exact .is rfl rfl
end
end Go.Vk
set_option linter.unusedVariables false
namespace Go.Vk

/-- The slots that an operation reads. -/
def readsOf (ops : Array Oper) (o : Oper) : List Tmp :=
  (o.op.operands.toList.filterMap fun | .tmp t => some t | _ => none) ++ (match o.guard with | some (j, _) => ((ops[j]?).bind (·.dst)).toList | none => [])
def edge (o : Oper) (j : Nat) : Bool := o.after.toList.any fun e => Region.binds .any e && Nat.beq e.on j
theorem edge.out {o : Oper} {j : Nat} (h : edge o j = true) : ∃ e ∈ o.after, Region.binds .any e = true ∧ e.on = j := by
  unfold edge at h
  rw [List.any_eq_true] at h
  obtain ⟨e, he, hb⟩ := h
  simp only [Bool.and_eq_true] at hb
  exact ⟨e, by simpa using he, hb.1, Nat.eq_of_beq_eq_true hb.2⟩
/-- What the theorem asks of the edges. -/
def chkA (ops : Array Oper) : Bool :=
  (List.range ops.size).all fun i => match ops[i]? with
    | none => true
    | some o =>
      (o.after.toList.all fun e => !Region.binds .any e || Nat.blt e.on i) &&
      (List.range ops.size).all fun j => match ops[j]? with
        | none => true
        | some p => (Nat.beq i j || o.dst.isNone || o.dst != p.dst) &&
          (match p.dst with
           | none => true
           | some d => !(readsOf ops o).contains d || (if Nat.blt j i then edge o j else !(Nat.beq i j) && edge p i))

structure ChkA (ops : Array Oper) : Prop where
  back : ∀ (i : Nat) (o : Oper), ops[i]? = some o → ∀ e ∈ o.after, Region.binds .any e = true → e.on < i
  one : ∀ (i j : Nat) (o p : Oper) (d : Nat), ops[i]? = some o → ops[j]? = some p → o.dst = some d → p.dst = some d → i = j
  reads : ∀ (i j : Nat) (o p : Oper) (d : Nat), ops[i]? = some o → ops[j]? = some p → p.dst = some d → d ∈ readsOf ops o → (j < i → edge o j = true) ∧ (i ≤ j → i ≠ j ∧ edge p i = true)

theorem ChkA.of {ops : Array Oper} (h : chkA ops = true) : ChkA ops := by
  unfold chkA at h
  rw [List.all_eq_true] at h
  have hi : ∀ (i : Nat) (o : Oper), ops[i]? = some o → (o.after.toList.all fun e => !Region.binds .any e || Nat.blt e.on i) = true ∧ ∀ (j : Nat) (p : Oper), ops[j]? = some p → (Nat.beq i j || o.dst.isNone || o.dst != p.dst) = true ∧
      (match p.dst with
           | none => true
           | some d => !(readsOf ops o).contains d || (if Nat.blt j i then edge o j else !(Nat.beq i j) && edge p i)) = true := by
    intro i o ho
    have hlt := (Array.getElem?_eq_some_iff.1 ho).1
    have h1 := h i (List.mem_range.2 hlt)
    rw [ho] at h1
    simp only [Bool.and_eq_true] at h1
    refine ⟨h1.1, fun j p hp => ?_⟩
    have hlt' := (Array.getElem?_eq_some_iff.1 hp).1
    have h2 := (List.all_eq_true.1 h1.2) j (List.mem_range.2 hlt')
    rw [hp] at h2
    simpa only [Bool.and_eq_true] using h2
  refine ⟨?_, ?_, ?_⟩
  · intro i o ho e he hb
    have h1 := (hi i o ho).1
    rw [List.all_eq_true] at h1
    have := h1 e (by simpa using he)
    rw [hb] at this
    simp only [Bool.not_true, Bool.false_or] at this
    exact Nat.le_of_ble_eq_true this
  · intro i j o p d ho hp h1 h2
    have h3 := ((hi i o ho).2 j p hp).1
    rw [h1, h2] at h3
    simp at h3
    exact h3
  · intro i j o p d ho hp h1 h2
    have h3 := ((hi i o ho).2 j p hp).2
    rw [h1] at h3
    have hc : (readsOf ops o).contains d = true := by simpa using h2
    simp only [hc, Bool.not_true, Bool.false_or] at h3
    refine ⟨fun hji => ?_, fun hij => ?_⟩
    · have : Nat.blt j i = true := Nat.ble_eq_true_of_le hji
      rw [this] at h3; simpa using h3
    · have : Nat.blt j i = false := by
        rw [Bool.eq_false_iff]; intro hb; have := Nat.le_of_ble_eq_true hb; omega
      rw [this] at h3
      simp at h3
      exact ⟨fun e => by subst e; simp at h3, h3.2⟩

/-- The operations' types, in the text's order. -/
def RegA (F : FCtx) (ops : Array Oper) (L : List Res) (fin : Env → Prop) : List Oper → Env → Prop
  | [], E => fin E
  | o :: rest, E => ∃ T, dstB F.N o = true ∧ OpG F.P ops L E o T ∧ RegA F ops L fin rest (E.put o.dst T)

def envAt (E : Env) : List Oper → List Ty → Env
  | o :: os, T :: Ts => envAt (E.put o.dst T) os Ts
  | _, _ => E

theorem RegA.types {F : FCtx} {ops : Array Oper} {L : List Res} {fin : Env → Prop} : ∀ (l : List Oper) (E : Env), RegA F ops L fin l E →
    ∃ Ts : List Ty, Ts.length = l.length ∧ fin (envAt E l Ts) ∧ ∀ (i : Nat) (o : Oper) (T : Ty), l[i]? = some o → Ts[i]? = some T → dstB F.N o = true ∧ OpG F.P ops L (envAt E (l.take i) (Ts.take i)) o T
  | [], E, h => ⟨[], rfl, h, fun i o T h1 => by simp at h1⟩
  | o :: l, E, ⟨T, hd, hop, hr⟩ => by
    obtain ⟨Ts, h1, h2, h3⟩ := RegA.types l _ hr
    refine ⟨T :: Ts, by simp [h1], h2, fun i o' T' e1 e2 => ?_⟩
    cases i with
    | zero => simp at e1 e2; subst e1; subst e2; exact ⟨hd, hop⟩
    | succ i => exact h3 i o' T' (by simpa using e1) (by simpa using e2)

theorem envAt_get : ∀ (l : List Oper) (Ts : List Ty) (E : Env) (t : Nat) (T : Ty), Ts.length = l.length → (envAt E l Ts).get t = some T →
    (∃ (j : Nat) (o : Oper), l[j]? = some o ∧ Ts[j]? = some T ∧ o.dst = some t) ∨ ((∀ (j : Nat) (o : Oper), l[j]? = some o → o.dst ≠ some t) ∧ E.get t = some T)
  | [], [], E, t, T, _, h => .inr ⟨fun j o e => by simp at e, h⟩
  | o :: l, U :: Ts, E, t, T, hl, h => by
    rcases envAt_get l Ts _ t T (by simpa using hl) h with ⟨j, p, h1, h2, h3⟩ | ⟨h1, h2⟩
    · exact .inl ⟨j + 1, p, by simpa using h1, by simpa using h2, h3⟩
    · cases hd : o.dst with
      | none =>
        rw [hd] at h2
        refine .inr ⟨fun j p e => ?_, h2⟩
        cases j with
        | zero => simp at e; subst e; rw [hd]; simp
        | succ j => exact h1 j p (by simpa using e)
      | some k =>
        rw [hd] at h2
        simp only [Env.put, Env.get] at h2
        by_cases hk : Nat.beq k t = true
        · rw [hk] at h2
          simp at h2; subst h2
          have := Nat.eq_of_beq_eq_true hk; subst this
          exact .inl ⟨0, o, rfl, rfl, hd⟩
        · have hk' : Nat.beq k t = false := Bool.eq_false_iff.2 hk
          rw [hk'] at h2
          refine .inr ⟨fun j p e => ?_, h2⟩
          cases j with
          | zero => simp at e; subst e; rw [hd]; intro e'; simp only [Option.some.injEq] at e'; subst e'; simp at hk
          | succ j => exact h1 j p (by simpa using e)
  | [], _ :: _, _, _, _, h, _ => by simp at h
  | _ :: _, [], _, _, _, h, _ => by simp at h

/-- How things stand when some of the operations have been run. -/
structure MidA (F : FCtx) (ops : Array Oper) (L : List Res) (E : Env) (Ts : List Ty) (S : Nat → Nat → Prop) (listed : Array Bool) (a : Act) (w : World) (G : Imm) : Prop where
  inv : Inv F L G w S
  size : a.tmps.size = F.N
  defers : a.defers = []
  lsize : listed.size = ops.size
  closed : ∀ (i : Nat) (o : Oper), ops[i]? = some o → listed.getD i false = true → ∀ e ∈ o.after, Region.binds .any e = true → listed.getD e.on false = true
  done : ∀ (i : Nat) (o : Oper) (T : Ty) (d : Nat), ops[i]? = some o → Ts[i]? = some T → listed.getD i false = true → o.dst = some d → T.p G (a.tmps.getD d undef)
  rest : ∀ (d : Nat) (T : Ty), E.get d = some T → (∀ (i : Nat) (o : Oper), ops[i]? = some o → o.dst = some d → listed.getD i false = false) → T.p G (a.tmps.getD d undef)

def unlisted (listed : Array Bool) : Nat := (listed.toList.filter (! ·)).length

theorem unlisted_set {listed : Array Bool} {i : Nat} (h : listed[i]? = some false) : unlisted (listed.setIfInBounds i true) + 1 = unlisted listed := by
  have key : ∀ (l : List Bool) (i : Nat), l[i]? = some false → ((l.set i true).filter (! ·)).length + 1 = (l.filter (! ·)).length := by
    intro l
    induction l with
    | nil => intro i h; simp at h
    | cons b l ih =>
      intro i h
      cases i with
      | zero => simp at h; subst h; simp
      | succ i =>
        have := ih i (by simpa using h)
        cases b <;> simp <;> omega
  have := key listed.toList i (by simpa using h)
  simpa [unlisted] using this

theorem mem_ready {ops : Array Oper} {listed : Array Bool} {i : Nat} (h : i ∈ Region.ready .any ops listed) : ∃ o, ops[i]? = some o ∧ listed.getD i true = false ∧ ∀ e ∈ o.after, Region.binds .any e = true → listed.getD e.on false = true := by
  unfold Region.ready at h
  rw [List.mem_filter] at h
  obtain ⟨_, h2⟩ := h
  cases ho : ops[i]? with
  | none => rw [ho] at h2; simp at h2
  | some o =>
    rw [ho] at h2
    simp only [Option.map_some, Option.getD_some, Bool.and_eq_true, Bool.not_eq_true'] at h2
    refine ⟨o, rfl, h2.1, fun e he hb => ?_⟩
    have := (Array.all_eq_true_iff_forall_mem.1 h2.2) e he
    rw [hb] at this
    simpa using this

theorem ready_nil {ops : Array Oper} {listed : Array Bool} (hc : ChkA ops) (hl : listed.size = ops.size) (h : Region.ready .any ops listed = []) : ∀ i, i < ops.size → listed.getD i false = true := by
  intro i
  induction i using Nat.strongRecOn with
  | _ i ih =>
    intro hi
    have hnot : i ∉ Region.ready .any ops listed := by rw [h]; simp
    unfold Region.ready at hnot
    rw [List.mem_filter] at hnot
    cases hb : listed.getD i false with
    | true => rfl
    | false =>
      exfalso
      apply hnot
      refine ⟨List.mem_range.2 hi, ?_⟩
      have ho : ops[i]? = some ops[i] := Array.getElem?_eq_getElem hi
      have hb' : listed.getD i true = false := by
        have hil : i < listed.size := by omega
        simp only [Array.getD_eq_getD_getElem?, Array.getElem?_eq_getElem hil, Option.getD_some] at hb ⊢
        exact hb
      rw [ho, hb']
      simp only [Option.map_some, Option.getD_some, Bool.not_false, Bool.true_and]
      rw [Array.all_eq_true_iff_forall_mem]
      intro e he
      cases hbe : Region.binds .any e with
      | false => rfl
      | true =>
        have hlt := hc.back i _ ho e he hbe
        rw [ih e.on hlt (by omega)]; rfl

theorem unlisted_zero {listed : Array Bool} (h : unlisted listed = 0) : ∀ i, i < listed.size → listed.getD i false = true := by
  intro i hi
  have h0 : listed.toList.filter (! ·) = [] := List.eq_nil_of_length_eq_zero h
  rw [List.filter_eq_nil_iff] at h0
  have := h0 listed[i] (by simp)
  simp only [Array.getD_eq_getD_getElem?, Array.getElem?_eq_getElem hi, Option.getD_some]
  simpa using this

theorem getD_set {listed : Array Bool} {i j : Nat} (hi : i < listed.size) : (listed.setIfInBounds i true).getD j false = if i = j then true else listed.getD j false := by
  simp only [Array.getD_eq_getD_getElem?, Array.getElem?_setIfInBounds]
  by_cases h : i = j
  · subst h; simp [hi]
  · simp [h]

theorem wpAny_of {F : FCtx} {ops : Array Oper} {L : List Res} {E : Env} {Ts : List Ty} {S : Nat → Nat → Prop} {Q : Exit → Act → World → Prop} (hc : ChkA ops) (hlen : Ts.length = ops.size) (hE : E.okB F.N = true)
    (hops : ∀ (i : Nat) (o : Oper) (T : Ty), ops[i]? = some o → Ts[i]? = some T → dstB F.N o = true ∧ OpG F.P ops L (envAt E (ops.toList.take i) (Ts.take i)) o T)
    (hfin : HX F (envAt E ops.toList Ts) L Q .normal) : ∀ (fuel : Nat) (listed : Array Bool) (a : Act) (w : World) (G : Imm), MidA F ops L E Ts S listed a w G → unlisted listed ≤ fuel → wpAny F.P .any ops Q fuel listed a w := by
  have hend : ∀ (listed : Array Bool) (a : Act) (w : World) (G : Imm), MidA F ops L E Ts S listed a w G → (∀ i, i < ops.size → listed.getD i false = true) → Q .normal a w := by
    intro listed a w G hm hall
    refine hfin a w G S hm.inv ⟨hm.size, hm.defers, fun t T e => ?_⟩
    rcases envAt_get ops.toList Ts E t T (by simpa using hlen) e with ⟨j, o, h1, h2, h3⟩ | ⟨h1, h2⟩
    · have h1' : ops[j]? = some o := by simpa using h1
      exact hm.done j o T t h1' h2 (hall j (Array.getElem?_eq_some_iff.1 h1').1) h3
    · exact hm.rest t T h2 fun i o ho hd => absurd hd (h1 i o (by simpa using ho))
  intro fuel
  induction fuel with
  | zero =>
    intro listed a w G hm hu
    have hall := unlisted_zero (Nat.le_zero.1 hu)
    refine ⟨?_, hend listed a w G hm (fun i hi => hall i (by rw [hm.lsize]; exact hi))⟩
    apply List.eq_nil_iff_forall_not_mem.2
    intro i hi
    obtain ⟨o, h1, h2, _⟩ := mem_ready hi
    have hlt : i < listed.size := by rw [hm.lsize]; exact (Array.getElem?_eq_some_iff.1 h1).1
    have := hall i hlt
    simp only [Array.getD_eq_getD_getElem?, Array.getElem?_eq_getElem hlt, Option.getD_some] at this h2
    rw [this] at h2; cases h2
  | succ fuel ih =>
    intro listed a w G hm hu
    refine ⟨fun hr => hend listed a w G hm (ready_nil hc hm.lsize hr), fun i hi => ?_⟩
    obtain ⟨o, ho, hnl, hed⟩ := mem_ready hi
    have hlt : i < ops.size := (Array.getElem?_eq_some_iff.1 ho).1
    have hlt' : i < listed.size := by rw [hm.lsize]; exact hlt
    have hli : listed[i]? = some false := by
      rw [Array.getElem?_eq_getElem hlt']
      simp only [Array.getD_eq_getD_getElem?, Array.getElem?_eq_getElem hlt', Option.getD_some] at hnl
      rw [hnl]
    have hnl' : listed.getD i false = false := by simp [Array.getD_eq_getD_getElem?, hli]
    obtain ⟨T, hT⟩ : ∃ T, Ts[i]? = some T := ⟨_, List.getElem?_eq_getElem (by omega)⟩
    obtain ⟨hd, hop⟩ := hops i o T ho hT
    -- what the operation reads
    have hread : ∀ t, t ∈ readsOf ops o → ∀ U, (envAt E (ops.toList.take i) (Ts.take i)).get t = some U → U.p G (a.tmps.getD t undef) := by
      intro t ht U hU
      rcases envAt_get _ _ E t U (by simp; omega) hU with ⟨j, p, h1, h2, h3⟩ | ⟨h1, h2⟩
      · have hji : j < i := by
          have := (List.getElem?_eq_some_iff.1 h1).1
          simp at this; omega
        rw [List.getElem?_take, if_pos hji] at h1 h2
        have h1' : ops[j]? = some p := by simpa using h1
        have hed' := (hc.reads i j o p t ho h1' h3 ht).1 hji
        have hlj : listed.getD j false = true := by
          obtain ⟨k, hk, hb, hj⟩ := edge.out hed'
          have := hed k hk hb
          rw [hj] at this
          exact this
        exact hm.done j p U t h1' h2 hlj h3
      · refine hm.rest t U h2 fun j p hp hdp => ?_
        by_cases hji : j < i
        · exact absurd hdp (h1 j p (by rw [List.getElem?_take, if_pos hji]; simpa using hp))
        · obtain ⟨hne, hed'⟩ := (hc.reads i j o p t ho hp hdp ht).2 (by omega)
          cases hlj : listed.getD j false with
          | false => rfl
          | true =>
            exfalso
            obtain ⟨k, hk, hb, hj⟩ := edge.out hed'
            have := hm.closed j p hp hlj k hk hb
            rw [hj, hnl'] at this
            cases this
    have htyped : TypedO (envAt E (ops.toList.take i) (Ts.take i)) G a o := by
      intro x hx U hU
      cases x with
      | tmp t =>
        refine hread t ?_ U hU
        unfold readsOf
        rw [List.mem_append]
        exact .inl (List.mem_filterMap.2 ⟨.tmp t, by simpa using hx, rfl⟩)
      | const v => cases hU; rfl
      | global g => cases hU; rfl
      | func f => cases hU; rfl
    have hstep := OpG.step (F := F) (Q := Q) (K := wpAny F.P .any ops Q fuel (listed.setIfInBounds i true)) (w := w) (S := S) hop hm.inv.ext.sat hm.inv.owns htyped
      (by
        intro j want d hg hdj Tg he
        have hmem : d ∈ readsOf ops o := by
          unfold readsOf
          rw [List.mem_append, hg]
          right
          simp [hdj]
        refine ⟨hread d hmem Tg he, yielded_of hdj hm.size ?_ want⟩
        have hoj : ∃ p, ops[j]? = some p ∧ p.dst = some d := by
          cases hj : ops[j]? with
          | none => rw [hj] at hdj; cases hdj
          | some p => rw [hj] at hdj; exact ⟨p, rfl, hdj⟩
        obtain ⟨p, hp, hpd⟩ := hoj
        obtain ⟨U, hU⟩ : ∃ U, Ts[j]? = some U := ⟨_, List.getElem?_eq_getElem (by rw [hlen]; exact (Array.getElem?_eq_some_iff.1 hp).1)⟩
        exact dstB.lt (hops j p U hp hU).1 d hpd)
      (by
        intro v w' G' hext hv
        refine ih _ _ _ G' ?_ (by have := unlisted_set hli; omega)
        refine ⟨hm.inv.step0 hext, (Act.put_size a o.dst v).trans hm.size, (Act.put_defers' a o.dst v).trans hm.defers, by simpa using hm.lsize, ?_, ?_, ?_⟩
        · intro j p hp hlj e he hb
          rw [getD_set hlt'] at hlj ⊢
          by_cases hij : i = j
          · subst hij
            rw [ho] at hp; cases hp
            split
            · rfl
            · exact hed e he hb
          · rw [if_neg hij] at hlj
            split
            · rfl
            · exact hm.closed j p hp hlj e he hb
        · intro j p U d hp hU hlj hpd
          rw [getD_set hlt'] at hlj
          by_cases hij : i = j
          · subst hij
            rw [ho] at hp; cases hp
            rw [hT] at hU; cases hU
            rw [hpd, Act.put_getD a d d v (by rw [hm.size]; exact dstB.lt hd d hpd), if_pos rfl]
            exact hv
          · rw [if_neg hij] at hlj
            have hold := U.mono hext.le (hm.done j p U d hp hU hlj hpd)
            cases hod : o.dst with
            | none => simpa [Act.put] using hold
            | some k =>
              have hk : k ≠ d := fun e => hij (hc.one i j o p d ho hp (by rw [hod, e]) hpd)
              rw [Act.put_getD a k d v (by rw [hm.size]; exact dstB.lt hd k hod), if_neg hk]
              exact hold
        · intro d U hU hno
          have hno' : ∀ (j : Nat) (p : Oper), ops[j]? = some p → p.dst = some d → listed.getD j false = false := by
            intro j p hp hpd
            have := hno j p hp hpd
            rw [getD_set hlt'] at this
            split at this
            · cases this
            · exact this
          have hold := U.mono hext.le (hm.rest d U hU hno')
          cases hod : o.dst with
          | none => simpa [Act.put] using hold
          | some k =>
            have hk : k ≠ d := by
              intro e
              have := hno i o ho (by rw [hod, e])
              rw [getD_set hlt', if_pos rfl] at this
              cases this
            rw [Act.put_getD a k d v (by rw [hm.size]; exact dstB.lt hd k hod), if_neg hk]
            exact hold)
    unfold wpOp
    rw [ho]
    dsimp only
    split
    · rename_i hw; rw [if_pos hw] at hstep; exact .inl hstep
    · rename_i hw; rw [if_neg hw] at hstep; exact hstep

theorem HT.regionA {F : FCtx} {E : Env} {L : List Res} {Q : Exit → Act → World → Prop} {id : Nat} {ops : Array Oper} (hm : F.P.follows .mixedOrders = true) (hE : E.okB F.N = true) (hc : chkA ops = true) (h : RegA F ops L (fun E' => HX F E' L Q .normal) ops.toList E) : HT F E L (.region id ops true) Q := by
  intro a w G S hi ht
  obtain ⟨Ts, h1, h2, h3⟩ := RegA.types _ _ h
  refine wp_region_any hm ?_
  have hdrew : Ext noZ G w G { w with drawn := w.drawn + 1 } := ⟨fun b o v hb => hi.ext.sat b o v hb, Imm.le.refl G, rfl, rfl, rfl, Nat.le_refl _, fun _ _ _ => ⟨rfl, fun _ => rfl⟩⟩
  refine wpAny_of (S := S) (Ts := Ts) (E := E) (L := L) (ChkA.of hc) (by simpa using h1) hE (fun i o T ho hT => ?_) h2 _ _ _ _ G ?_ ?_
  · exact h3 i o T (by simpa using ho) hT
  · refine ⟨hi.step0 hdrew, ht.size, ht.defers, by simp, ?_, ?_, fun d T hd _ => ht.get d T hd⟩
    · intro i o ho hl; simp [Array.getD_eq_getD_getElem?, Array.getElem?_replicate] at hl; split at hl <;> simp at hl
    · intro i o T d ho hT hl; simp [Array.getD_eq_getD_getElem?, Array.getElem?_replicate] at hl; split at hl <;> simp at hl
  · simp only [unlisted, Array.toList_replicate]
    exact Nat.le_trans (List.length_filter_le _ _) (by simp)

theorem HT.regionAl {F : FCtx} {E : Env} {L : List Res} {Q : Exit → Act → World → Prop} {id : Nat} {l : List Oper} (hm : F.P.follows .mixedOrders = true) (hE : E.okB F.N = true) (hc : chkA l.toArray = true) (h : RegA F l.toArray L (fun E' => HX F E' L Q .normal) l E) : HT F E L (.region id l.toArray true) Q :=
  HT.regionA hm hE hc (by simpa using h)
section
variable {F : FCtx} {E : Env} {L : List Res} {fin : Env → Prop} {ops : Array Oper} {o : Oper} {rest : List Oper}
theorem RegA.nil (h : fin E) : RegA F ops L fin [] E := h
theorem RegA.fe {d : Nat} {op : Op} {ty : TypeId} {pos : String} {after : Array Edge} (hd : Nat.blt d F.N = true) (h : ∃ T, OpP F.P L E ⟨some d, op, ty, pos, after, none⟩ T ∧ RegA F ops L fin rest ((d, T) :: E)) : RegA F ops L fin (⟨some d, op, ty, pos, after, none⟩ :: rest) E :=
  let ⟨T, h1, h2⟩ := h; ⟨T, hd, .free rfl h1, h2⟩
theorem RegA.fn {op : Op} {ty : TypeId} {pos : String} {after : Array Edge} (h : ∃ T, OpP F.P L E ⟨none, op, ty, pos, after, none⟩ T ∧ RegA F ops L fin rest E) : RegA F ops L fin (⟨none, op, ty, pos, after, none⟩ :: rest) E :=
  let ⟨T, h1, h2⟩ := h; ⟨T, rfl, .free rfl h1, h2⟩
theorem RegA.ge {d' : Nat} {op : Op} {ty : TypeId} {pos : String} {after : Array Edge} {j : Nat} {want b : Bool} {d : Nat} (hd : Nat.blt d' F.N = true) (hj : (ops[j]?).bind (·.dst) = some d) (he : E.get d = some (Is (.bool b))) (h : ∃ T, (b = want → OpP F.P L E ⟨some d', op, ty, pos, after, some (j, want)⟩ T) ∧ RegA F ops L fin rest ((d', TIf (b = want) T) :: E)) : RegA F ops L fin (⟨some d', op, ty, pos, after, some (j, want)⟩ :: rest) E :=
  let ⟨T, h1, h2⟩ := h; ⟨_, hd, .guarded rfl hj he (.is b want) h1, h2⟩
theorem RegA.gn {d' : Nat} {op : Op} {ty : TypeId} {pos : String} {after : Array Edge} {j : Nat} {want b : Bool} {d : Nat} {c : Prop} (hd : Nat.blt d' F.N = true) (hj : (ops[j]?).bind (·.dst) = some d) (he : E.get d = some (TIf c (Is (.bool b)))) (h : ∃ T, (c ∧ b = want → OpP F.P L E ⟨some d', op, ty, pos, after, some (j, want)⟩ T) ∧ RegA F ops L fin rest ((d', TIf (c ∧ b = want) T) :: E)) : RegA F ops L fin (⟨some d', op, ty, pos, after, some (j, want)⟩ :: rest) E :=
  let ⟨T, h1, h2⟩ := h; ⟨_, hd, .guarded rfl hj he (.nest c b want) h1, h2⟩
end
section
variable {P : Program} {L : List Res} {E : Env} {dst : Option Tmp} {op : Op} {ty : TypeId} {pos : String} {after : Array Edge} {gd : Option (Nat × Bool)} {K : Ty → Prop}
/-- The operation is of this form: the goal stays. -/
theorem isO (op : Op) (h : ∃ T, OpP P L E ⟨dst, op, ty, pos, after, gd⟩ T ∧ K T) : ∃ T, OpP P L E ⟨dst, op, ty, pos, after, gd⟩ T ∧ K T := h
theorem isG (op : Op) {c : Prop} (h : ∃ T, (c → OpP P L E ⟨dst, op, ty, pos, after, gd⟩ T) ∧ K T) : ∃ T, (c → OpP P L E ⟨dst, op, ty, pos, after, gd⟩ T) ∧ K T := h
theorem isS (op : Op) {F : FCtx} {Q : Exit → Act → World → Prop} {ops : Array Oper} {rest : List Oper} (h : RegS F ops Q (⟨dst, op, ty, pos, after, gd⟩ :: rest) E L) : RegS F ops Q (⟨dst, op, ty, pos, after, gd⟩ :: rest) E L := h
end
theorem isHX {F : FCtx} {E : Env} {L : List Res} {Q : Exit → Act → World → Prop} {e : Exit} (h : HX F E L Q e) : HX F E L Q e := h
theorem isHT {F : FCtx} {E : Env} {L : List Res} {Q : Exit → Act → World → Prop} {c : Code} (h : HT F E L c Q) : HT F E L c Q := h
theorem isRS {F : FCtx} {E : Env} {L : List Res} {Q : Exit → Act → World → Prop} {ops : Array Oper} {l : List Oper} (h : RegS F ops Q l E L) : RegS F ops Q l E L := h
theorem isRA {F : FCtx} {E : Env} {L : List Res} {fin : Env → Prop} {ops : Array Oper} {l : List Oper} (h : RegA F ops L fin l E) : RegA F ops L fin l E := h
end Go.Vk
set_option linter.unusedVariables false
namespace Go.Vk

/-! ### bits -/
theorem bv8 (c : UInt8) : BitVec.ofInt 8 (c.toNat : Int) = c.toBitVec := by
  apply BitVec.eq_of_toNat_eq
  rw [BitVec.toNat_ofInt]
  have : c.toNat < 256 := c.toNat_lt
  show ((c.toNat : Int) % (2 ^ 8 : Nat)).toNat = c.toNat
  omega
theorem b8_of {n : Int} (h : 0 ≤ n ∧ n < 256) : ((b8 n).toNat : Int) = n := by rw [b8_toNat]; omega
theorem wrap8_nat (n : Nat) (h : n < 256) : IntKind.u8.wrap (n : Int) = n := by rw [IntKind.wrap_u8]; omega
theorem and8 (c : UInt8) {n : Int} (h : 0 ≤ n ∧ n < 256) : bitsOf .and .u8 (c.toNat : Int) n = ((c &&& b8 n).toNat : Int) := by
  rw [← b8_of h]
  show IntKind.u8.wrap ((BitVec.ofInt 8 (c.toNat : Int) &&& BitVec.ofInt 8 ((b8 n).toNat : Int)).toNat : Int) = _
  rw [bv8, bv8, wrap8_nat _ (BitVec.isLt _), b8_of h]; rfl
theorem or8 (c : UInt8) {n : Int} (h : 0 ≤ n ∧ n < 256) : bitsOf .or .u8 (c.toNat : Int) n = ((c ||| b8 n).toNat : Int) := by
  rw [← b8_of h]
  show IntKind.u8.wrap ((BitVec.ofInt 8 (c.toNat : Int) ||| BitVec.ofInt 8 ((b8 n).toNat : Int)).toNat : Int) = _
  rw [bv8, bv8, wrap8_nat _ (BitVec.isLt _), b8_of h]; rfl
theorem andn8 (c : UInt8) {n : Int} (h : 0 ≤ n ∧ n < 256) : bitsOf .andNot .u8 (c.toNat : Int) n = ((c &&& ~~~ (b8 n)).toNat : Int) := by
  rw [← b8_of h]
  show IntKind.u8.wrap ((BitVec.ofInt 8 (c.toNat : Int) &&& ~~~ BitVec.ofInt 8 ((b8 n).toNat : Int)).toNat : Int) = _
  rw [bv8, bv8, wrap8_nat _ (BitVec.isLt _), b8_of h]; rfl

/-- A number shifted by eight, and a byte. -/
theorem or_low {m c : Int} (hc : 0 ≤ c ∧ c < 256) (hm : InK .i64 (m * 256 + c)) : bitsOf .or .i64 (m * 256) c = m * 256 + c := by
  have e : ((BitVec.ofInt 64 (m * 256) ||| BitVec.ofInt 64 c).toNat : Int) = (m * 256 + c) % 18446744073709551616 := by
    rw [BitVec.toNat_or, BitVec.toNat_ofInt, BitVec.toNat_ofInt]
    have h1 : (c % ((2 ^ 64 : Nat) : Int)).toNat = c.toNat := by omega
    have h2 : ((m * 256) % ((2 ^ 64 : Nat) : Int)).toNat = 2 ^ 8 * (m % 72057594037927936).toNat := by omega
    rw [h1, h2, ← Nat.two_pow_add_eq_or_of_lt (by omega)]
    omega
  show IntKind.i64.wrap ((BitVec.ofInt 64 (m * 256) ||| BitVec.ofInt 64 c).toNat : Int) = _
  rw [e]
  have hm' : IntKind.i64.wrap (m * 256 + c) = m * 256 + c := hm
  rw [IntKind.wrap_i64] at hm' ⊢
  omega

section
variable {P : Program} {L : List Res} {E : Env} {dst : Option Tmp} {ty : TypeId} {pos : String} {after : Array Edge} {gd : Option (Nat × Bool)}
section
variable {x y : Operand} {c : UInt8} {n : Int} {xt yt : TypeId}
theorem op_and8 (hx : Opd E x = some (okI .u8 (c.toNat : Int))) (hy : Opd E y = some (okI .u8 n)) (h : 0 ≤ n ∧ n < 256) : OpP P L E ⟨dst, .binOp .and xt x y yt, ty, pos, after, gd⟩ (okI .u8 ((c &&& b8 n).toNat : Int)) := by
  rw [← and8 c h]; exact op_andb hx hy
theorem op_or8 (hx : Opd E x = some (okI .u8 (c.toNat : Int))) (hy : Opd E y = some (okI .u8 n)) (h : 0 ≤ n ∧ n < 256) : OpP P L E ⟨dst, .binOp .or xt x y yt, ty, pos, after, gd⟩ (okI .u8 ((c ||| b8 n).toNat : Int)) := by
  rw [← or8 c h]; exact op_orb hx hy
theorem op_andn8 (hx : Opd E x = some (okI .u8 (c.toNat : Int))) (hy : Opd E y = some (okI .u8 n)) (h : 0 ≤ n ∧ n < 256) : OpP P L E ⟨dst, .binOp .andNot xt x y yt, ty, pos, after, gd⟩ (okI .u8 ((c &&& ~~~ (b8 n)).toNat : Int)) := by
  rw [← andn8 c h]; exact op_andn hx hy
end
theorem op_shl8 {x : Operand} {m : Int} {xt yt : TypeId} (hx : Opd E x = some (okI .i64 m)) (h : InK .i64 (m * 256)) : OpP P L E ⟨dst, .binOp .shl xt x (.const (.int .u64 8)) yt, ty, pos, after, gd⟩ (okI .i64 (m * 256)) :=
  op_shl (n := 8) hx rfl (by decide) h
theorem op_shr8 {x : Operand} {m : Int} {xt yt : TypeId} (hx : Opd E x = some (okI .i64 m)) : OpP P L E ⟨dst, .binOp .shr xt x (.const (.int .u64 8)) yt, ty, pos, after, gd⟩ (okI .i64 (m / 256)) :=
  op_shr (n := 8) hx rfl (by decide)
theorem op_orlow {x y : Operand} {m c : Int} {xt yt : TypeId} (hx : Opd E x = some (okI .i64 (m * 256))) (hy : Opd E y = some (okI .i64 c)) (hc : 0 ≤ c ∧ c < 256) (h : InK .i64 (m * 256 + c)) : OpP P L E ⟨dst, .binOp .or xt x y yt, ty, pos, after, gd⟩ (okI .i64 (m * 256 + c)) := by
  rw [← or_low hc h]; exact op_orb hx hy

section
variable {x : Operand} {α : Type} {sz : Nat} {f : α → List Ty} {l : List α} {t e : TypeId} {m n : Int} {k k' : IntKind} {o o' : Operand}
theorem op_slice2 (hx : Opd E x = some (TSl sz f l)) (hu : P.underlying t = some (.slice e)) (hsz : ∀ w, (sizeOf e).run P w = .ok sz w) (hlo : Opd E o = some (okI k m)) (hhi : Opd E o' = some (okI k' n)) (h : 0 ≤ m ∧ m ≤ n ∧ n ≤ (l.length : Int)) :
    OpP P L E ⟨dst, .slice t x (some o) (some o') none, ty, pos, after, gd⟩ (TSl sz f ((l.take n.toNat).drop m.toNat)) :=
  op_slice hx hu hsz (.inr ⟨o, k, rfl, hlo⟩) (.inr ⟨o', k', rfl, hhi⟩) h.1 h.2.1 h.2.2
theorem op_sliceL (hx : Opd E x = some (TSl sz f l)) (hu : P.underlying t = some (.slice e)) (hsz : ∀ w, (sizeOf e).run P w = .ok sz w) (hlo : Opd E o = some (okI k m)) (h : 0 ≤ m ∧ m ≤ (l.length : Int)) :
    OpP P L E ⟨dst, .slice t x (some o) none none, ty, pos, after, gd⟩ (TSl sz f (l.drop m.toNat)) := by
  have := op_slice (P := P) (L := L) (dst := dst) (ty := ty) (pos := pos) (after := after) (gd := gd) (hi := none) (n := (l.length : Int)) hx hu hsz (.inr ⟨o, k, rfl, hlo⟩) (.inl ⟨rfl, rfl⟩) h.1 h.2 (Int.le_refl _)
  simpa using this
theorem op_sliceH (hx : Opd E x = some (TSl sz f l)) (hu : P.underlying t = some (.slice e)) (hsz : ∀ w, (sizeOf e).run P w = .ok sz w) (hhi : Opd E o' = some (okI k' n)) (h : 0 ≤ n ∧ n ≤ (l.length : Int)) :
    OpP P L E ⟨dst, .slice t x none (some o') none, ty, pos, after, gd⟩ (TSl sz f (l.take n.toNat)) := by
  have := op_slice (P := P) (L := L) (dst := dst) (ty := ty) (pos := pos) (after := after) (gd := gd) (lo := none) (m := 0) hx hu hsz (.inl ⟨rfl, rfl⟩) (.inr ⟨o', k', rfl, hhi⟩) (Int.le_refl _) h.1 h.2
  simpa using this
theorem run_eq_nil (w : World) {a : Option Addr} {n c : Nat} (hu : P.underlying t = some (.slice e)) : (Op.equal t (.slice a n c) (.slice none 0 0)).run P w = .ok a.isNone w := by
  have h : ∀ d, (Op.equalIn (d + 1) t (.slice a n c) (.slice none 0 0)).run P w = .ok a.isNone w := fun d => by cases a <;> simp [Op.equalIn, run_underlying hu]
  exact h 9999
/-- x == nil: of whether a slice is nil its elements do not tell. -/
def TNil {α : Type} (l : List α) : Ty := ⟨fun _ v => ∃ b : Bool, v = .bool b ∧ (b = true → l = []), fun _ h => h⟩
theorem op_eqnil {xt yt : TypeId} (hx : Opd E x = some (TSl sz f l)) (hu : P.underlying xt = some (.slice e)) : OpP P L E ⟨dst, .binOp .eql xt x (.const (.slice none 0 0)) yt, ty, pos, after, gd⟩ (TNil l) :=
  OpP.same fun a w G S _ _ ho => by
    obtain ⟨ad, cap, e1, hlc, hcm, _, hnil, had⟩ := ho x (by simp [Op.operands]) _ hx
    refine ⟨.bool ad.isNone, ?_, ad.isNone, rfl, ?_⟩
    · simp only [execOp, e1]
      simp [eqGuard, binOp, run_eq_nil w hu, Act.eval]
    · intro h
      cases ad with
      | none => have := hnil rfl; exact List.eq_nil_of_length_eq_zero (by omega)
      | some ad => simp at h
end
end
/-- A test whose outcome is not told. -/
theorem HT.condNil {F : FCtx} {E : Env} {L : List Res} {Q : Exit → Act → World → Prop} {c : Operand} {x y : Code} {α : Type} {l : List α} (hc : Opd E c = some (TNil l)) (hx : l = [] → HT F E L x Q) (hy : HT F E L y Q) : HT F E L (.cond c x y) Q := fun a w G S hi ht => by
  obtain ⟨b, hb, h⟩ := ht.opd c hc
  exact wp_cond_split (t := b) hb (fun e => hx (h e) a w G S hi ht) (fun _ => hy a w G S hi ht)

theorem freeze_one (w : World) (g o : Nat) (cs : Array Value) (e : TypeId) (fr : Nat × Nat) (h : w.heap[g]? = some (.cells cs e fr)) : ∃ fr', (w.freeze ⟨g, o, none⟩ 1).heap[g]? = some (.cells cs e fr') := by
  have hlt : g < w.heap.size := (Array.getElem?_eq_some_iff.1 h).1
  have hv : w.heap[g] = .cells cs e fr := (Array.getElem?_eq_some_iff.1 h).2
  obtain ⟨lo, hi⟩ := fr
  refine ⟨if lo == hi then (o, o + 1) else (min lo o, max hi (o + 1)), ?_⟩
  simp only [World.freeze, if_neg (show ¬ (1 = 0) by decide)]
  rw [Array.getElem?_eq_getElem (by simpa using hlt), Array.getElem_modify]
  simp [hv]
section
variable {P : Program} {L : List Res} {E : Env} {dst : Option Tmp} {ty : TypeId} {pos : String} {after : Array Edge} {gd : Option (Nat × Bool)}
/-- A literal that a string may share: it is nobody's any more. -/
theorem op_mark {x : Operand} {t e : TypeId} {l : List UInt8} {v : Value} (i : Nat) (hx : Opd E x = some (TAnd (Is v) (TBytes l))) (hL : L[i]? = some (ownSl v 1 e)) (hu : P.underlying t = some (.slice e)) (he : P.underlying e = some (.int .u8)) (hl : 0 < l.length) :
    OpC P L E ⟨dst, .convert t t x, ty, pos, after, gd⟩ (fun _ => TBytes l) (fun _ => L.set i empR) := by
  intro a w G S hs ho ht K Q k
  have hxx := ht x (by simp [Op.operands]) _ hx
  have hxv : a.eval x = v := hxx.1
  have hsl : (TBytes l).p G (a.eval x) := hxx.2
  have hiL : i < L.length := (List.getElem?_eq_some_iff.1 hL).1
  rcases ho.res i _ hL with ⟨h1, _⟩ | ⟨g, n, cap, cs, h1, h2, h3, h4, h5, h6, h7⟩
  · obtain ⟨ad, c, e1, _⟩ := hsl
    rw [hxv, h1] at e1
    simp at e1; omega
  · have hr : (execOp a.eval (⟨dst, .convert t t x, ty, pos, after, gd⟩ : Oper)).run P w = .ok (.value v) (w.freeze ⟨g, cs.size, none⟩ 1) := by
      simp only [execOp, hxv]
      rw [h1]
      simp [convert, run_underlying hu, run_underlying he, markStringish, World.shape?, h3]
    simp only [Oper.wp, hr, Oper.upon_value]
    obtain ⟨fr', hf⟩ := freeze_one w g cs.size cs e (0, 0) h3
    have hoth : ∀ b, b ≠ g → (w.freeze ⟨g, cs.size, none⟩ 1).heap[b]? = w.heap[b]? := fun b hb => by
      simp only [World.freeze, if_neg (show ¬ (1 = 0) by decide), Array.getElem?_modify]
      rw [if_neg (fun e => hb e.symm)]
    have hsat : Sat G (w.freeze ⟨g, cs.size, none⟩ 1) := by
      intro b o u hb
      have := hs b o u hb
      by_cases hbg : b = g
      · subst hbg
        simp only [World.cell?, h3, hf] at this ⊢
        exact this
      · simp only [World.cell?] at this ⊢
        rw [hoth b hbg]; exact this
    have hext : Ext (fun b => b = g) G w G (w.freeze ⟨g, cs.size, none⟩ 1) := ⟨hsat, Imm.le.refl G, by simp [World.freeze], by simp [World.freeze], by simp [World.freeze], by simp [World.freeze], fun b _ hb => ⟨hoth b hb, fun _ => rfl⟩⟩
    have hSg : S i g := (h2 g).2 rfl
    refine k v _ G _ ⟨hext.sat, hext.le, hext.os, hext.tape, hext.output, hext.size, fun b hb hz => hext.blk b hb (fun e => hz ⟨i, by rw [e]; exact hSg⟩)⟩ (ho.set hext hiL (fun b e => by rw [e]; exact hSg) empR (fun _ => False) (fun _ z => z.elim) trivial) ?_ (by rw [← hxv]; exact hsl)
    intro j b hb
    by_cases hj : j = i
    · simp [hj] at hb
    · simp only [hj, if_false] at hb; exact .inr ⟨j, hb⟩
end
section
variable {P : Program} {L : List Res} {E : Env} {dst : Option Tmp} {ty : TypeId} {pos : String} {after : Array Edge} {gd : Option (Nat × Bool)} {t e : TypeId}
/-- What a []byte's elements are. -/
abbrev ByteEl (P : Program) (e : TypeId) : Prop := (P.info? e).map (fun i => (i.zero, i.size, i.bytes)) = some (some (.int .u8 0), 1, 1)
theorem op_litB0 {parts : Array (Nat × Operand)} (hp : partsOf parts = []) (hu : P.underlying t = some (.slice e)) (hi : ByteEl P e) : OpP P L E ⟨dst, .buildSlice t 0 parts, ty, pos, after, gd⟩ (TSlX 1 cB []) :=
  op_lit cB [] (by have : parts.toList = [] := by simpa [partsOf] using hp
                   simp [partsOk, this]) (by rw [hp]; trivial) rfl (by simp) hu hi (by decide) (by decide)
theorem op_litB1 {x : Operand} {c : UInt8} (hx : Opd E x = some (okI .u8 (c.toNat : Int))) (hu : P.underlying t = some (.slice e)) (hi : ByteEl P e) : OpP P L E ⟨dst, .buildSlice t 1 #[(0, x)], ty, pos, after, gd⟩ (TSlX 1 cB [c]) :=
  op_lit cB [c] rfl ⟨⟨_, hx, CellsOf.byte c⟩, trivial⟩ rfl (by simp [cB]) hu hi (by decide) (by decide)
theorem op_litB1c {x : Operand} {m : Int} (hx : Opd E x = some (okI .u8 m)) (hm : 0 ≤ m ∧ m < 256) (hu : P.underlying t = some (.slice e)) (hi : ByteEl P e) : OpP P L E ⟨dst, .buildSlice t 1 #[(0, x)], ty, pos, after, gd⟩ (TSlX 1 cB [b8 m]) :=
  op_lit cB [b8 m] rfl ⟨⟨_, hx, CellsOf.b8 hm⟩, trivial⟩ rfl (by simp [cB]) hu hi (by decide) (by decide)
theorem op_litB1O {x : Operand} {c : UInt8} (hx : Opd E x = some (okI .u8 (c.toNat : Int))) (hu : P.underlying t = some (.slice e)) (hi : ByteEl P e) : OpC P L E ⟨dst, .buildSlice t 1 #[(0, x)], ty, pos, after, gd⟩ (fun v => TAnd (Is v) (TBytes [c])) (fun v => L ++ [ownSl v 1 e]) :=
  op_litO cB [c] rfl ⟨⟨_, hx, CellsOf.byte c⟩, trivial⟩ rfl (by simp [cB]) hu hi (by decide) (by decide)
theorem op_litB1cO {x : Operand} {m : Int} (hx : Opd E x = some (okI .u8 m)) (hm : 0 ≤ m ∧ m < 256) (hu : P.underlying t = some (.slice e)) (hi : ByteEl P e) : OpC P L E ⟨dst, .buildSlice t 1 #[(0, x)], ty, pos, after, gd⟩ (fun v => TAnd (Is v) (TBytes [b8 m])) (fun v => L ++ [ownSl v 1 e]) :=
  op_litO cB [b8 m] rfl ⟨⟨_, hx, CellsOf.b8 hm⟩, trivial⟩ rfl (by simp [cB]) hu hi (by decide) (by decide)
/-- What a [][]byte's elements are. -/
abbrev SlEl (P : Program) (e : TypeId) : Prop := (P.info? e).map (fun i => (i.zero, i.size, i.bytes)) = some (some (.slice none 0 0), 1, 24)
theorem op_litLs {n : Nat} (ls : List (List UInt8)) {parts : Array (Nat × Operand)} (hp : partsOk parts n = true) (hx : LitOk E (cL 1 cB) (partsOf parts) ls) (hn : n = ls.length) (hu : P.underlying t = some (.slice e)) (hi : SlEl P e) (hb : n ≤ 100) : OpP P L E ⟨dst, .buildSlice t n parts, ty, pos, after, gd⟩ (TSlX 1 (cL 1 cB) ls) :=
  op_lit (cL 1 cB) ls hp hx hn (by simp [cL]) hu hi (by omega) (by simp only [maxLen]; omega)
theorem op_litB0O {parts : Array (Nat × Operand)} (hp : partsOf parts = []) (hu : P.underlying t = some (.slice e)) (hi : ByteEl P e) : OpC P L E ⟨dst, .buildSlice t 0 parts, ty, pos, after, gd⟩ (fun v => TAnd (Is v) (TBytes [])) (fun v => L ++ [ownSl v 1 e]) :=
  op_litO cB [] (by have : parts.toList = [] := by simpa [partsOf] using hp
                    simp [partsOk, this]) (by rw [hp]; trivial) rfl (by simp) hu hi (by decide) (by decide)
variable {x y : Operand} {l m : List UInt8}
theorem op_appendXB (hx : Opd E x = some (TSlX 1 cB l)) (hy : Opd E y = some (TBytes m)) (hu : P.underlying t = some (.slice e)) (hi : ByteEl P e) (hb : l.length + m.length ≤ 140737488355328) :
    OpP P L E ⟨dst, .call { callee := .builtin .append, args := #[x, y], argTypes := #[t, t] }, ty, pos, after, gd⟩ (TBytes (l ++ m)) :=
  op_appendX hx hy hu hi (by omega) (by simp only [maxLen]; omega)
theorem op_appendB {v : Value} (i : Nat) (hx : Opd E x = some (TAnd (Is v) (TBytes l))) (hy : Opd E y = some (TBytes m)) (hL : L[i]? = some (ownSl v 1 e)) (hu : P.underlying t = some (.slice e)) (hi : ByteEl P e) (hb : l.length + m.length ≤ 140737488355328) :
    OpC P L E ⟨dst, .call { callee := .builtin .append, args := #[x, y], argTypes := #[t, t] }, ty, pos, after, gd⟩ (fun v' => TAnd (Is v') (TBytes (l ++ m))) (fun v' => L.set i (ownSl v' 1 e)) :=
  op_append i hx hy hL hu hi rfl (by omega) (by simp only [maxLen]; omega)
end
/-! ### loops -/
def Env.keep (E : Env) : List Nat → Env
  | [] => []
  | t :: ks => match E.get t with
    | some T => (t, T) :: Env.keep E ks
    | none => Env.keep E ks
theorem SubE.done {E : Env} : SubE E [] := trivial
theorem SubE.append {E : Env} : ∀ {A B : Env}, SubE E A → SubE E B → SubE E (A ++ B)
  | [], _, _, h => h
  | _ :: _, _, h, k => ⟨h.1, SubE.append h.2 k⟩
theorem SubE.keep (E : Env) : ∀ ks, SubE E (E.keep ks)
  | [] => trivial
  | t :: ks => by
    unfold Env.keep
    cases h : E.get t with
    | none => exact SubE.keep E ks
    | some T => exact ⟨⟨T, h, Sub.refl T⟩, SubE.keep E ks⟩
/-- A round of the loop is done. -/
def RoundK {σ : Type} (F : FCtx) (E : Env) (ks : List Nat) (upd : σ → Env) (L' : σ → List Res) (I : σ → Prop) (μ : σ → Nat) (s : σ) (a : Act) (w : World) : Prop :=
  ∃ s' G S, (I s' ∧ μ s' < μ s) ∧ Inv F (L' s') G w S ∧ Typed F.N (upd s' ++ E.keep ks) G a
theorem HT.loopK {F : FCtx} {E : Env} {L : List Res} {Q : Exit → Act → World → Prop} {c : Code} {σ : Type} (ks : List Nat) (upd : σ → Env) (L' : σ → List Res) (I : σ → Prop) (μ : σ → Nat) (s0 : σ) (hI : I s0) (hL : L' s0 = L) (hu : SubE E (upd s0))
    (body : ∀ s, I s → HT F (upd s ++ E.keep ks) (L' s) c (Exit.then (RoundK F E ks upd L' I μ s) Q)) : HT F E L (.loop c) Q :=
  HT.loop (fun s => upd s ++ E.keep ks) L' I μ (HX.atLoop (Q := Q) s0 hI (hu.append (SubE.keep E ks)) hL) body
theorem HX.roundK {F : FCtx} {E E2 : Env} {L2 : List Res} {Q : Exit → Act → World → Prop} {σ : Type} {ks : List Nat} {upd : σ → Env} {L' : σ → List Res} {I : σ → Prop} {μ : σ → Nat} {s : σ} (s' : σ) (hI : I s' ∧ μ s' < μ s) (hk : E2.keep ks = E.keep ks) (hL : L' s' = L2) (hu : SubE E2 (upd s')) : HX F E2 L2 (Exit.then (RoundK F E ks upd L' I μ s) Q) .normal :=
  fun a w G S hi ht => ⟨s', G, S, hI, by rw [hL]; exact hi, ht.sub (hu.append (by rw [← hk]; exact SubE.keep E2 ks))⟩
/-- The ways meet again; of what stood before ks stays. -/
def MidK {σ : Type} (F : FCtx) (E : Env) (ks : List Nat) (upd : σ → Env) (L' : σ → List Res) (I : σ → Prop) (a : Act) (w : World) : Prop :=
  ∃ s G S, I s ∧ Inv F (L' s) G w S ∧ Typed F.N (upd s ++ E.keep ks) G a
theorem HT.seqK {F : FCtx} {E : Env} {L : List Res} {Q : Exit → Act → World → Prop} {x y : Code} {σ : Type} (ks : List Nat) (upd : σ → Env) (L' : σ → List Res) (I : σ → Prop)
    (h : HT F E L x (Exit.then (MidK F E ks upd L' I) Q)) (k : ∀ s, I s → HT F (upd s ++ E.keep ks) (L' s) y Q) : HT F E L (.seq x y) Q := HT.seqMid (fun s => upd s ++ E.keep ks) L' I h k
theorem HX.midK {F : FCtx} {E E2 : Env} {L2 : List Res} {Q : Exit → Act → World → Prop} {σ : Type} {ks : List Nat} {upd : σ → Env} {L' : σ → List Res} {I : σ → Prop} (s' : σ) (hI : I s') (hk : E2.keep ks = E.keep ks) (hL : L' s' = L2) (hu : SubE E2 (upd s')) : HX F E2 L2 (Exit.then (MidK F E ks upd L' I) Q) .normal :=
  fun a w G S hi ht => ⟨s', G, S, hI, by rw [hL]; exact hi, ht.sub (hu.append (by rw [← hk]; exact SubE.keep E2 ks))⟩

section
variable {P : Program} {L : List Res} {E : Env} {dst : Option Tmp} {ty : TypeId} {pos : String} {after : Array Edge} {gd : Option (Nat × Bool)} {x : Operand} {c : UInt8} {st dt : TypeId} {ds : TypeDesc}
theorem op_conv8 {k' : IntKind} (hx : Opd E x = some (okI .u8 (c.toNat : Int))) (hs : P.underlying st = some ds) (hd : P.underlying dt = some (.int k')) (hk : k' = .i64 ∨ k' = .u64 ∨ k' = .u32) : OpP P L E ⟨dst, .convert st dt x, ty, pos, after, gd⟩ (okI k' (c.toNat : Int)) :=
  op_conv hx hs hd (by
    have := c.toNat_lt
    rcases hk with rfl | rfl | rfl
    · exact InK.i64 (by omega)
    · exact InK.u64 (by omega)
    · exact InK.u32 (by omega))
end
/-! ### guarded operands -/
def tmpAt (o : Oper) (i : Nat) : Option Nat := match o.op.operands.toList[i]? with
  | some (.tmp t) => some t
  | _ => none
theorem OpP.unl {P : Program} {L : List Res} {E : Env} {o : Oper} {T T0 U0 : Ty} {t : Nat} (hc : Sub U0 T0) (h : E.get t = some U0) (k : OpP P L ((t, T0) :: E) o T) : OpP P L E o T := by
  intro a w G S hs ho ht
  refine k a w G S hs ho fun x hx U hU => ?_
  cases x with
  | tmp t' =>
    simp only [Opd, Env.get] at hU
    by_cases hk : Nat.beq t t' = true
    · rw [hk] at hU
      have := Nat.eq_of_beq_eq_true hk; subst this
      simp at hU; subst hU
      exact hc _ _ (ht (.tmp t) hx _ h)
    · have hk' : Nat.beq t t' = false := Bool.eq_false_iff.2 hk
      rw [hk'] at hU
      exact ht (.tmp t') hx U hU
  | const v => exact ht (.const v) hx U hU
  | global g => exact ht (.global g) hx U hU
  | func f => exact ht (.func f) hx U hU
theorem exUn {P : Program} {L : List Res} {E : Env} {o : Oper} {T0 : Ty} {c : Prop} {t : Nat} {K : Ty → Prop} (i : Nat) (hi : tmpAt o i = some t) (h : E.get t = some (TIf c T0)) (k : ∃ T, (c → OpP P L ((t, T0) :: E) o T) ∧ K T) : ∃ T, (c → OpP P L E o T) ∧ K T :=
  let ⟨T, h1, h2⟩ := k; ⟨T, fun hc => OpP.unl (U0 := TIf c T0) (fun _ _ k => k.1 hc) h (h1 hc), h2⟩
/-- An operand that is there where c and d are: to an operation that is run where c is. -/
theorem exUnR {P : Program} {L : List Res} {E : Env} {o : Oper} {T0 : Ty} {c d : Prop} {t : Nat} {K : Ty → Prop} (i : Nat) (hi : tmpAt o i = some t) (h : E.get t = some (TIf (c ∧ d) T0)) (k : ∃ T, (c → OpP P L ((t, TIf d T0) :: E) o T) ∧ K T) : ∃ T, (c → OpP P L E o T) ∧ K T :=
  let ⟨T, h1, h2⟩ := k; ⟨T, fun hc => OpP.unl (U0 := TIf (c ∧ d) T0) (T0 := TIf d T0) (fun _ _ k => ⟨fun hd => k.1 ⟨hc, hd⟩, fun hn => k.2 (fun h => hn h.2)⟩) h (h1 hc), h2⟩
/-- An operand that is there where c is: to an operation that is run where c and d are. -/
theorem exUnL {P : Program} {L : List Res} {E : Env} {o : Oper} {T0 : Ty} {c d : Prop} {t : Nat} {K : Ty → Prop} (i : Nat) (hi : tmpAt o i = some t) (h : E.get t = some (TIf c T0)) (k : ∃ T, (c ∧ d → OpP P L ((t, T0) :: E) o T) ∧ K T) : ∃ T, (c ∧ d → OpP P L E o T) ∧ K T :=
  let ⟨T, h1, h2⟩ := k; ⟨T, fun hc => OpP.unl (U0 := TIf c T0) (fun _ _ k => k.1 hc.1) h (h1 hc), h2⟩
section
variable {P : Program} {L : List Res} {E : Env} {dst : Option Tmp} {ty : TypeId} {pos : String} {after : Array Edge} {gd : Option (Nat × Bool)} {x i : Operand} {l : List UInt8} {n : Int} {k : IntKind} {t e : TypeId}
theorem op_indexB (hx : Opd E x = some (TBytes l)) (hi : Opd E i = some (okI k n)) (hu : P.underlying t = some (.slice e)) (hsz : P.cellsOf e = 1) (hinf : (P.info? e).isSome = true)
    (h : 0 ≤ n ∧ n < (l.length : Int)) : OpP P L E ⟨dst, .indexAddr t x i, ty, pos, after, gd⟩ (TPc (cB (l.getD n.toNat 0))) := op_indexD hx hi hu hsz hinf h
theorem op_indexB0 (hx : Opd E x = some (TBytes l)) (hu : P.underlying t = some (.slice e)) (hsz : P.cellsOf e = 1) (hinf : (P.info? e).isSome = true)
    (h : 0 < l.length) : OpP P L E ⟨dst, .indexAddr t x (.const (.int k 0)), ty, pos, after, gd⟩ (TPc (cB (l.getD 0 0))) := op_indexD (n := 0) hx rfl hu hsz hinf (by omega)
theorem op_indexB1 (hx : Opd E x = some (TBytes l)) (hu : P.underlying t = some (.slice e)) (hsz : P.cellsOf e = 1) (hinf : (P.info? e).isSome = true)
    (h : 1 < l.length) : OpP P L E ⟨dst, .indexAddr t x (.const (.int k 1)), ty, pos, after, gd⟩ (TPc (cB (l.getD 1 0))) := op_indexD (n := 1) hx rfl hu hsz hinf (by omega)
end
theorem op_orlow8 {P : Program} {L : List Res} {E : Env} {dst : Option Tmp} {ty : TypeId} {pos : String} {after : Array Edge} {gd : Option (Nat × Bool)} {x y : Operand} {m : Int} {c : UInt8} {xt yt : TypeId} (hx : Opd E x = some (okI .i64 (m * 256))) (hy : Opd E y = some (okI .i64 (c.toNat : Int))) (hm : -36028797018963968 ≤ m ∧ m ≤ 36028797018963967) : OpP P L E ⟨dst, .binOp .or xt x y yt, ty, pos, after, gd⟩ (okI .i64 (m * 256 + (c.toNat : Int))) := by
  have := c.toNat_lt
  exact op_orlow hx hy (by omega) (InK.i64 (by omega))
theorem op_or8' {P : Program} {L : List Res} {E : Env} {dst : Option Tmp} {ty : TypeId} {pos : String} {after : Array Edge} {gd : Option (Nat × Bool)} {y : Operand} {n : Int} {c : UInt8} {xt yt : TypeId} {k : IntKind} (hk : k = .u8) (hy : Opd E y = some (okI .u8 (c.toNat : Int))) (h : 0 ≤ n ∧ n < 256) : OpP P L E ⟨dst, .binOp .or xt (.const (.int k n)) y yt, ty, pos, after, gd⟩ (okI .u8 ((b8 n ||| c).toNat : Int)) := by
  subst hk
  have e := or8 (b8 n) (n := (c.toNat : Int)) ⟨by omega, by have := c.toNat_lt; omega⟩
  have hb : b8 (c.toNat : Int) = c := by
    apply UInt8.toNat_inj.1
    have h1 := b8_toNat (c.toNat : Int)
    have := c.toNat_lt
    omega
  rw [hb] at e
  have h2 := b8_of h
  rw [h2] at e
  rw [← e]
  exact op_orb (P := P) (L := L) (E := E) (dst := dst) (ty := ty) (pos := pos) (after := after) (gd := gd) (xt := xt) (yt := yt) (x := .const (.int .u8 n)) (y := y) (k := .u8) (m := n) (n := (c.toNat : Int)) rfl hy
section
variable {P : Program} {L : List Res} {E : Env} {dst : Option Tmp} {ty : TypeId} {pos : String} {after : Array Edge} {gd : Option (Nat × Bool)} {x ix : Operand} {i : Nat} {k : IntKind} {t e : TypeId}
theorem op_indexBN {l : List UInt8} (hx : Opd E x = some (TBytes l)) (hi : Opd E ix = some (okI k (i : Int))) (hu : P.underlying t = some (.slice e)) (hsz : P.cellsOf e = 1) (hinf : (P.info? e).isSome = true)
    (h : i < l.length) : OpP P L E ⟨dst, .indexAddr t x ix, ty, pos, after, gd⟩ (TPc (cB (l.getD i 0))) := op_indexD (n := (i : Int)) hx hi hu hsz hinf (by omega)
theorem op_indexN {α : Type} [Inhabited α] {sz : Nat} {f : α → List Ty} {l : List α} (hx : Opd E x = some (TSl sz f l)) (hi : Opd E ix = some (okI k (i : Int))) (hu : P.underlying t = some (.slice e)) (hsz : P.cellsOf e = sz) (hinf : (P.info? e).isSome = true)
    (h : i < l.length) : OpP P L E ⟨dst, .indexAddr t x ix, ty, pos, after, gd⟩ (TPc (f (l.getD i default))) := op_indexD (n := (i : Int)) hx hi hu hsz hinf (by omega)
end
/-! ### calls whose arguments' types are wider -/
def OpdsS (E : Env) : List Operand → List Ty → Prop
  | [], [] => True
  | x :: xs, T :: A => (∃ U, Opd E x = some U ∧ Sub U T) ∧ OpdsS E xs A
  | _, _ => False
theorem OpdsS.args {E : Env} {G : Imm} {a : Act} : ∀ (xs : List Operand) (A : List Ty), OpdsS E xs A → (∀ x ∈ xs, ∀ T, Opd E x = some T → T.p G (a.eval x)) → ArgsT G A (xs.map a.eval)
  | [], [], _, _ => trivial
  | x :: xs, T :: A, h, ho => ⟨let ⟨U, h1, h2⟩ := h.1; h2 _ _ (ho x (by simp) U h1), OpdsS.args xs A h.2 (fun y hy => ho y (by simp [hy]))⟩
  | [], _ :: _, h, _ => h.elim
  | _ :: _, [], h, _ => h.elim
section
variable {P : Program} {L : List Res} {E : Env} {dst : Option Tmp} {ty : TypeId} {pos : String} {after : Array Edge} {gd : Option (Nat × Bool)}
theorem op_callS {f : FuncId} {A : List Ty} {T : Ty} {xs : List Operand} {tys : Array TypeId} (hf : CFn P f A T) (hx : OpdsS E xs A) :
    OpP P L E ⟨dst, .call { callee := .value (.func f), args := xs.toArray, argTypes := tys }, ty, pos, after, gd⟩ T := by
  intro a w G S hs ho ht K Q k
  simp only [Oper.wp, run_call_func w hf.enter, Oper.upon_enter]
  refine (hf.calls _ w G _ hs (Owns.none G w) (OpdsS.args xs A hx (fun x hx' => ht x (by simp [Op.operands, Call.operands, hx'])))).mono ?_
  rintro e w' ⟨v, G', S', rfl, hext, -, -, hT⟩
  exact k v w' G' ⟨hext.sat, hext.le, hext.os, hext.tape, hext.output, hext.size, fun b hb _ => hext.blk b hb (fun ⟨_, h⟩ => h)⟩ hT
theorem op_callOS {f : FuncId} {A : List Ty} {T : Value → Ty} {R : Value → Res} {xs : List Operand} {tys : Array TypeId} (hf : CallsC P f A [] T (fun v => [R v])) (hx : OpdsS E xs A) :
    OpC P L E ⟨dst, .call { callee := .value (.func f), args := xs.toArray, argTypes := tys }, ty, pos, after, gd⟩ T (fun v => L ++ [R v]) := by
  intro a w G S hs ho ht K Q k
  simp only [Oper.wp, run_call_func w hf.enter, Oper.upon_enter]
  refine (hf.calls _ w G _ hs (Owns.none G w) (OpdsS.args xs A hx (fun x hx' => ht x (by simp [Op.operands, Call.operands, hx'])))).mono ?_
  rintro e w' ⟨v, G', S', rfl, hext, ho', hs', hT⟩
  have hext0 : Ext noZ G w G' w' := ⟨hext.sat, hext.le, hext.os, hext.tape, hext.output, hext.size, fun b hb _ => hext.blk b hb (fun ⟨_, h⟩ => h)⟩
  refine k v w' G' _ ⟨hext.sat, hext.le, hext.os, hext.tape, hext.output, hext.size, fun b hb _ => hext0.blk b hb (fun z => z)⟩ (ho.snoc hext0 _ (S' 0) (fun b hb => ⟨(hs' 0 b hb).elim id (fun ⟨_, h⟩ => h.elim), ho'.bound 0 b hb⟩) (ho'.res 0 _ rfl)) ?_ hT
  intro i b hb'
  by_cases hi : i = L.length
  · simp only [hi, if_true] at hb'; exact .inl ((hs' 0 b hb').elim id (fun ⟨_, h⟩ => h.elim))
  · simp only [hi, if_false] at hb'; exact .inr ⟨i, hb'⟩
end
theorem Sub.ownR {v : Value} {T U : Ty} (h : Sub T U) : Sub (TAnd (Is v) T) U := fun _ _ k => h _ _ k.2
section
variable {P : Program} {L : List Res} {E : Env} {dst : Option Tmp} {ty : TypeId} {pos : String} {after : Array Edge} {gd : Option (Nat × Bool)} {c y : Operand} {b b' : Bool}
theorem op_orU (hc : Opd E c = some (Is (.bool b))) (hy : Opd E y = some (Is (.bool b'))) : OpP P L E ⟨dst, .pick c (.const (.bool true)) y, ty, pos, after, gd⟩ (Is (.bool (b || b'))) :=
  OpP.same fun a w G S _ _ h => by
    have h1 : a.eval c = .bool b := h c (by simp [Op.operands]) _ hc
    have h2 : a.eval y = .bool b' := h y (by simp [Op.operands]) _ hy
    cases b
    · exact ⟨.bool b', by simp [execOp, h1, asBool, h2], by simp [Is]⟩
    · exact ⟨.bool true, by simp only [execOp, h1]; simp [asBool, Act.eval], by simp [Is]⟩
theorem op_andU (hc : Opd E c = some (Is (.bool b))) (hy : Opd E y = some (Is (.bool b'))) : OpP P L E ⟨dst, .pick c y (.const (.bool false)), ty, pos, after, gd⟩ (Is (.bool (b && b'))) :=
  OpP.same fun a w G S _ _ h => by
    have h1 : a.eval c = .bool b := h c (by simp [Op.operands]) _ hc
    have h2 : a.eval y = .bool b' := h y (by simp [Op.operands]) _ hy
    cases b
    · exact ⟨.bool false, by simp only [execOp, h1]; simp [asBool, Act.eval], by simp [Is]⟩
    · exact ⟨.bool b', by simp [execOp, h1, asBool, h2], by simp [Is]⟩
end
end Go.Vk
set_option linter.unusedVariables false
namespace Go.Vk
section
variable {F : FCtx} {E : Env} {L : List Res} {Q : Exit → Act → World → Prop} {ops : Array Oper} {o : Oper} {rest : List Oper} {fin : Env → Prop}
theorem RegS.fq {d : Nat} {op : Op} {ty : TypeId} {pos : String} {after : Array Edge} (hd : Nat.blt d F.N = true) (h : ∃ T, (True → OpP F.P L E ⟨some d, op, ty, pos, after, none⟩ T) ∧ RegS F ops Q rest ((d, T) :: E) L) : RegS F ops Q (⟨some d, op, ty, pos, after, none⟩ :: rest) E L := let ⟨_, h1, h2⟩ := h; .f hd rfl (h1 trivial) h2
theorem RegS.fnq {op : Op} {ty : TypeId} {pos : String} {after : Array Edge} (h : ∃ T, (True → OpP F.P L E ⟨none, op, ty, pos, after, none⟩ T) ∧ RegS F ops Q rest E L) : RegS F ops Q (⟨none, op, ty, pos, after, none⟩ :: rest) E L := let ⟨_, h1, h2⟩ := h; .f rfl rfl (h1 trivial) h2
theorem RegA.fq {d : Nat} {op : Op} {ty : TypeId} {pos : String} {after : Array Edge} (hd : Nat.blt d F.N = true) (h : ∃ T, (True → OpP F.P L E ⟨some d, op, ty, pos, after, none⟩ T) ∧ RegA F ops L fin rest ((d, T) :: E)) : RegA F ops L fin (⟨some d, op, ty, pos, after, none⟩ :: rest) E :=
  let ⟨T, h1, h2⟩ := h; ⟨T, hd, .free rfl (h1 trivial), h2⟩
theorem RegA.fnq {op : Op} {ty : TypeId} {pos : String} {after : Array Edge} (h : ∃ T, (True → OpP F.P L E ⟨none, op, ty, pos, after, none⟩ T) ∧ RegA F ops L fin rest E) : RegA F ops L fin (⟨none, op, ty, pos, after, none⟩ :: rest) E :=
  let ⟨T, h1, h2⟩ := h; ⟨T, rfl, .free rfl (h1 trivial), h2⟩
end
section
variable {P : Program} {L : List Res} {E : Env} {dst : Option Tmp} {ty : TypeId} {pos : String} {after : Array Edge} {gd : Option (Nat × Bool)}
theorem exCall {f : FuncId} {A : List Ty} {T : Ty} {xs : List Operand} {tys : Array TypeId} {c : Prop} {K : Ty → Prop} (hx : Opds E xs A) (hf : c → CFn P f A T) (k : K T) :
    ∃ T, (c → OpP P L E ⟨dst, .call { callee := .value (.func f), args := xs.toArray, argTypes := tys }, ty, pos, after, gd⟩ T) ∧ K T := ⟨T, fun h => op_call (hf h) hx, k⟩
theorem exCallS {f : FuncId} {A : List Ty} {T : Ty} {xs : List Operand} {tys : Array TypeId} {c : Prop} {K : Ty → Prop} (hf : c → CFn P f A T) (zxs : OpdsS E xs A) (k : K T) :
    ∃ T, (c → OpP P L E ⟨dst, .call { callee := .value (.func f), args := xs.toArray, argTypes := tys }, ty, pos, after, gd⟩ T) ∧ K T := ⟨T, fun h => op_callS (hf h) zxs, k⟩
theorem Opds.nil : Opds E [] [] := trivial
theorem Opds.cons {x : Operand} {xs : List Operand} {T : Ty} {A : List Ty} (h : Opd E x = some T) (k : Opds E xs A) : Opds E (x :: xs) (T :: A) := ⟨h, k⟩
theorem OpdsS.nil : OpdsS E [] [] := trivial
theorem OpdsS.cons {x : Operand} {xs : List Operand} {T U : Ty} {A : List Ty} (h : Opd E x = some U) (hs : Sub U T) (k : OpdsS E xs A) : OpdsS E (x :: xs) (T :: A) := ⟨⟨U, h, hs⟩, k⟩
theorem isSub {T U : Ty} (h : Sub T U) : Sub T U := h
end
end Go.Vk
