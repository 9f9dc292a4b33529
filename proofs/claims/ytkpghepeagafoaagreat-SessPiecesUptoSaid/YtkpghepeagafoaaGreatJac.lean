/-
  The rules as the proofs' steps use them. Nothing here speaks of a program; no conditions.
  A region that draws its order: whatever order its edges allow, if each operation only reads or lays new blocks. Nothing here speaks of a program; no conditions.
  The plain functions of ber: what its Go functions compute, on lists of bytes and numbers. Nothing here speaks of a program; no conditions.
-/
import Derived.Test.YtkpghepeagafoaaGreatJab
set_option linter.unusedSimpArgs false
set_option linter.unusedVariables false
set_option linter.unusedVariables false
namespace Go.Vk

section
variable {F : FCtx} {E : Env} {L : List Res} {Q : Exit → Act → World → Prop} {ops : Array Oper} {o : Oper} {rest : List Oper}
theorem RegS.nil (h : HX F E L Q .normal) : RegS F ops Q [] E L := h
theorem RegS.p {T : Ty} (hd : dstB F.N o = true) (hop : OpG F.P ops L E o T) (h : RegS F ops Q rest (E.put o.dst T) L) : RegS F ops Q (o :: rest) E L := .inl ⟨T, hd, hop, h⟩
theorem RegS.f {T : Ty} (hd : dstB F.N o = true) (hg : o.guard = none) (hop : OpP F.P L E o T) (h : RegS F ops Q rest (E.put o.dst T) L) : RegS F ops Q (o :: rest) E L := .inl ⟨T, hd, .free hg hop, h⟩
theorem RegS.g {T : Ty} {j : Nat} {want b : Bool} {d : Nat} (hd : dstB F.N o = true) (hg : o.guard = some (j, want)) (hj : (ops[j]?).bind (·.dst) = some d) (he : E.get d = some (Is (.bool b))) (hop : b = want → OpP F.P L E o T) (h : RegS F ops Q rest (E.put o.dst (TIf (b = want) T)) L) : RegS F ops Q (o :: rest) E L :=
  .inl ⟨_, hd, .guarded hg hj he (.is b want) hop, h⟩
theorem RegS.c {T : Value → Ty} {L' : Value → List Res} (hg : o.guard = none) (hd : dstB F.N o = true) (hop : OpC F.P L E o T L') (h : ∀ v, RegS F ops Q rest (E.put o.dst (T v)) (L' v)) : RegS F ops Q (o :: rest) E L := .inr ⟨T, L', .inl hg, hd, hop, h⟩
theorem RegS.cg {d' : Nat} {op : Op} {ty : TypeId} {pos : String} {after : Array Edge} {j : Nat} {want b : Bool} {d : Nat} {T : Value → Ty} {L' : Value → List Res} (hd : Nat.blt d' F.N = true) (hj : (ops[j]?).bind (·.dst) = some d) (he : E.get d = some (Is (.bool b))) (hb : b = want) (hop : OpC F.P L E ⟨some d', op, ty, pos, after, some (j, want)⟩ T L') (h : ∀ v, RegS F ops Q rest ((d', T v) :: E) (L' v)) : RegS F ops Q (⟨some d', op, ty, pos, after, some (j, want)⟩ :: rest) E L := .inr ⟨T, L', .inr ⟨j, want, d, _, _, rfl, hj, he, .is b want, hb⟩, hd, hop, h⟩
/-- A guard that is known to say yes. -/
theorem RegS.gt {d' : Nat} {op : Op} {ty : TypeId} {pos : String} {after : Array Edge} {j : Nat} {want b : Bool} {d : Nat} (hd : Nat.blt d' F.N = true) (hj : (ops[j]?).bind (·.dst) = some d) (he : E.get d = some (Is (.bool b))) (hb : b = want) (h : ∃ T, OpP F.P L E ⟨some d', op, ty, pos, after, some (j, want)⟩ T ∧ RegS F ops Q rest ((d', T) :: E) L) : RegS F ops Q (⟨some d', op, ty, pos, after, some (j, want)⟩ :: rest) E L :=
  let ⟨_, h1, h2⟩ := h; .cg hd hj he hb (.of_P h1) (fun _ => h2)
theorem RegS.fe {d : Nat} {op : Op} {ty : TypeId} {pos : String} {after : Array Edge} (hd : Nat.blt d F.N = true) (h : ∃ T, OpP F.P L E ⟨some d, op, ty, pos, after, none⟩ T ∧ RegS F ops Q rest ((d, T) :: E) L) : RegS F ops Q (⟨some d, op, ty, pos, after, none⟩ :: rest) E L := let ⟨_, h1, h2⟩ := h; .f hd rfl h1 h2
theorem RegS.fn {op : Op} {ty : TypeId} {pos : String} {after : Array Edge} (h : ∃ T, OpP F.P L E ⟨none, op, ty, pos, after, none⟩ T ∧ RegS F ops Q rest E L) : RegS F ops Q (⟨none, op, ty, pos, after, none⟩ :: rest) E L := let ⟨_, h1, h2⟩ := h; .f rfl rfl h1 h2
theorem RegS.ge {d' : Nat} {op : Op} {ty : TypeId} {pos : String} {after : Array Edge} {j : Nat} {want b : Bool} {d : Nat} (hd : Nat.blt d' F.N = true) (hj : (ops[j]?).bind (·.dst) = some d) (he : E.get d = some (Is (.bool b))) (h : ∃ T, (b = want → OpP F.P L E ⟨some d', op, ty, pos, after, some (j, want)⟩ T) ∧ RegS F ops Q rest ((d', TIf (b = want) T) :: E) L) : RegS F ops Q (⟨some d', op, ty, pos, after, some (j, want)⟩ :: rest) E L := let ⟨_, h1, h2⟩ := h; .g hd rfl hj he h1 h2
theorem RegS.ce {d : Nat} {op : Op} {ty : TypeId} {pos : String} {after : Array Edge} {T : Value → Ty} {L' : Value → List Res} (hd : Nat.blt d F.N = true) (hop : OpC F.P L E ⟨some d, op, ty, pos, after, none⟩ T L') (h : ∀ v, RegS F ops Q rest ((d, T v) :: E) (L' v)) : RegS F ops Q (⟨some d, op, ty, pos, after, none⟩ :: rest) E L := .c rfl hd hop h
theorem RegS.gn {d' : Nat} {op : Op} {ty : TypeId} {pos : String} {after : Array Edge} {j : Nat} {want b : Bool} {d : Nat} {c : Prop} (hd : Nat.blt d' F.N = true) (hj : (ops[j]?).bind (·.dst) = some d) (he : E.get d = some (TIf c (Is (.bool b)))) (h : ∃ T, (c ∧ b = want → OpP F.P L E ⟨some d', op, ty, pos, after, some (j, want)⟩ T) ∧ RegS F ops Q rest ((d', TIf (c ∧ b = want) T) :: E) L) : RegS F ops Q (⟨some d', op, ty, pos, after, some (j, want)⟩ :: rest) E L :=
  let ⟨_, h1, h2⟩ := h; .inl ⟨_, hd, .guarded rfl hj he (.nest c b want) h1, h2⟩
theorem HX.then {y : Code} (h : HT F E L y Q) : HX F E L (Exit.then (y.wp F.P Q) Q) .normal := h
theorem HX.then_ret {K : Act → World → Prop} (h : HX F E L Q .ret) : HX F E L (Exit.then K Q) .ret := h
theorem HX.then_exit {K : Act → World → Prop} {id : Nat} (h : HX F E L Q (.exit id)) : HX F E L (Exit.then K Q) (.exit id) := h
theorem HX.block_normal {id : Nat} (h : HX F E L Q .normal) : HX F E L (Exit.inBlock id Q) .normal := h
theorem HX.block_ret {id : Nat} (h : HX F E L Q .ret) : HX F E L (Exit.inBlock id Q) .ret := h
theorem HX.block_hit {id : Nat} (h : HX F E L Q .normal) : HX F E L (Exit.inBlock id Q) (.exit id) := fun a w G S hi ht => by
  show if id = id then Q .normal a w else Q (.exit id) a w
  rw [if_pos rfl]; exact h a w G S hi ht
theorem HX.block_miss {id id' : Nat} (hne : Nat.beq id' id = false) (h : HX F E L Q (.exit id')) : HX F E L (Exit.inBlock id Q) (.exit id') := fun a w G S hi ht => by
  show if id' = id then Q .normal a w else Q (.exit id') a w
  rw [if_neg (fun e => by subst e; simp at hne)]; exact h a w G S hi ht
theorem HT.condD {c : Operand} {x y : Code} {p : Prop} [Decidable p] (hc : Opd E c = some (Is (.bool (decide p)))) (hx : p → HT F E L x Q) (hy : ¬ p → HT F E L y Q) : HT F E L (.cond c x y) Q :=
  HT.cond hc (fun h => hx (of_decide_eq_true h)) (fun h => hy (of_decide_eq_false h))
/-- What is said outright at a joint. -/
theorem HX.mid {σ : Type} {E' : σ → Env} {L' : σ → List Res} {I : σ → Prop} {e : Exit} (s : σ) (hI : I s) (hE : ∀ t T, (E' s).get t = some T → ∃ U, E.get t = some U ∧ Sub U T) (hL : L' s = L) : HX F E L (fun _ a w => ∃ s G S, I s ∧ Inv F (L' s) G w S ∧ Typed F.N (E' s) G a) e :=
  fun a w G S hi ht => ⟨s, G, S, hI, by rw [hL]; exact hi, ht.size, ht.defers, fun t T h => let ⟨U, h1, h2⟩ := hE t T h; h2 _ _ (ht.get t U h1)⟩
/-- Each slot that E' names is as it says. -/
def SubE (E : Env) : Env → Prop
  | [] => True
  | (t, T) :: r => (∃ U, E.get t = some U ∧ Sub U T) ∧ SubE E r
theorem SubE.get {E : Env} : ∀ {E' : Env}, SubE E E' → ∀ t T, E'.get t = some T → ∃ U, E.get t = some U ∧ Sub U T
  | [], _, _, _, h => by cases h
  | (k, V) :: r, hs, t, T, h => by
    simp only [Env.get] at h
    by_cases hk : Nat.beq k t = true
    · have := Nat.eq_of_beq_eq_true hk
      subst this
      rw [hk] at h; simp at h; subst h
      exact hs.1
    · simp only [Bool.not_eq_true] at hk; rw [hk] at h
      exact SubE.get hs.2 t T h
theorem Typed.sub {N : Nat} {E E' : Env} {G : Imm} {a : Act} (h : Typed N E G a) (hs : SubE E E') : Typed N E' G a :=
  ⟨h.size, h.defers, fun t T e => let ⟨U, h1, h2⟩ := hs.get t T e; h2 _ _ (h.get t U h1)⟩
theorem HX.atLoop {σ : Type} {E' : σ → Env} {L' : σ → List Res} {I : σ → Prop} {Q : Exit → Act → World → Prop} (s : σ) (hI : I s) (hE : SubE E (E' s)) (hL : L' s = L) : HX F E L (fun _ a w => ∃ s G S, I s ∧ Inv F (L' s) G w S ∧ Typed F.N (E' s) G a) .normal :=
  fun a w G S hi ht => ⟨s, G, S, hI, by rw [hL]; exact hi, ht.sub hE⟩
theorem HX.round {σ : Type} {E' : σ → Env} {L' : σ → List Res} {I : σ → Prop} (s : σ) (hI : I s) (hE : SubE E (E' s)) (hL : L' s = L) : HX F E L (Exit.then (fun a w => ∃ s G S, I s ∧ Inv F (L' s) G w S ∧ Typed F.N (E' s) G a) Q) .normal :=
  fun a w G S hi ht => ⟨s, G, S, hI, by rw [hL]; exact hi, ht.sub hE⟩
/-- The state is known better. -/
theorem HT.sub {E' : Env} {c : Code} (hs : SubE E E') (h : HT F E' L c Q) : HT F E L c Q := fun a w G S hi ht => h a w G S hi (ht.sub hs)
theorem HX.sub {E' : Env} {e : Exit} (hs : SubE E E') (h : HX F E' L Q e) : HX F E L Q e := fun a w G S hi ht => h a w G S hi (ht.sub hs)
theorem SubE.cons {t : Nat} {T U : Ty} {r : Env} (h : E.get t = some U) (h2 : Sub U T) (h3 : SubE E r) : SubE E ((t, T) :: r) := ⟨⟨U, h, h2⟩, h3⟩
theorem Sub.of_eq {T U : Ty} (h : T = U) : Sub T U := fun _ _ k => h ▸ k
theorem Sub.is {v u : Value} (h : v = u) : Sub (Is v) (Is u) := fun _ _ k => h ▸ k
theorem Sub.i64 {m n : Int} (h : m = n) : Sub (okI .i64 m) (okI .i64 n) := fun _ _ k => h ▸ k
theorem Sub.int {k : IntKind} {m n : Int} (h : m = n) : Sub (okI k m) (okI k n) := fun _ _ k => h ▸ k
theorem Sub.bool {m n : Bool} (h : m = n) : Sub (Is (.bool m)) (Is (.bool n)) := fun _ _ k => h ▸ k
theorem Sub.str {m n : List UInt8} (h : m = n) : Sub (Is (str m)) (Is (str n)) := fun _ _ k => h ▸ k
theorem Sub.sl {α : Type} {sz : Nat} {f : α → List Ty} {l m : List α} (h : l = m) : Sub (TSl sz f l) (TSl sz f m) := fun _ _ k => h ▸ k
theorem Sub.slx {α : Type} {sz : Nat} {f : α → List Ty} {l m : List α} (h : l = m) : Sub (TSlX sz f l) (TSl sz f m) := fun _ _ k => h ▸ TSlX.sl k
theorem Sub.nil' {α : Type} {sz : Nat} {f : α → List Ty} {l : List α} (h : [] = l) : Sub (Is (.slice none 0 0)) (TSl sz f l) := h ▸ Sub.nil sz f
theorem Sub.own {v : Value} {T U : Ty} (h : Sub T U) : Sub (TAnd (Is v) T) (TAnd (Is v) U) := fun _ _ k => ⟨k.1, h _ _ k.2⟩
theorem Sub.tup1 {A A' : Ty} {B : List Ty} {B' : List Ty} (h1 : Sub A A') (h2 : Sub (TTup B) (TTup B')) : Sub (TTup (A :: B)) (TTup (A' :: B')) := by
  rintro G v ⟨vs, rfl, hl, h⟩
  obtain ⟨u, us, rfl⟩ : ∃ u us, vs = u :: us := by cases vs with | nil => simp at hl | cons u us => exact ⟨u, us, rfl⟩
  have hB : (TTup B).p G (.tuple us.toArray) := ⟨us, rfl, by simpa using hl, fun j T w e1 e2 => h (j + 1) T w (by simpa using e1) (by simpa using e2)⟩
  obtain ⟨us', e, hl', h'⟩ := h2 _ _ hB
  have : us = us' := by simpa using e
  subst this
  refine ⟨u :: us, rfl, by simp [hl'], fun j T w e1 e2 => ?_⟩
  cases j with
  | zero => simp at e1 e2; subst e1; subst e2; exact h1 _ _ (h 0 A u rfl rfl)
  | succ j => exact h' j T w (by simpa using e1) (by simpa using e2)
theorem Sub.tup0 : Sub (TTup []) (TTup []) := Sub.refl _
theorem RetT.one {fn : Func} {t : Tmp} {T U : Ty} (hr : fn.results.toList = [.tmp t]) (h : E.get t = some U) (hs : Sub U T) : RetT E fn.results.toList T := by
  rw [hr]; exact ⟨U, h, hs⟩
theorem RetT.many {fn : Func} {ts : List Tmp} {Us : List Ty} {T : Ty} (hr : fn.results.toList = ts.map ResultVar.tmp) (h1 : Nat.beq ts.length 1 = false) (h : Opds E (ts.map Operand.tmp) Us) (hs : Sub (TTup Us) T) : RetT E fn.results.toList T := by
  rw [hr]
  have h1' : ts.length ≠ 1 := fun e => by rw [e] at h1; cases h1
  unfold RetT
  split
  · rename_i rs t e
    have := congrArg List.length e
    simp at this; exact absurd this h1'
  · exact ⟨ts, Us, rfl, h1', h, hs⟩
def oneOf : List ResultVar → Tmp
  | .tmp t :: _ => t
  | _ => 0
theorem RetT.oneA {fn : Func} {T U : Ty} (hr : fn.results.toList = [.tmp (oneOf fn.results.toList)]) (h : E.get (oneOf fn.results.toList) = some U) (hs : Sub U T) : RetT E fn.results.toList T := RetT.one hr h hs
def tmpsOf : List ResultVar → List Tmp
  | .tmp t :: r => t :: tmpsOf r
  | _ => []
theorem RetT.manyA {fn : Func} {Us : List Ty} {T : Ty} (hr : fn.results.toList = (tmpsOf fn.results.toList).map ResultVar.tmp) (h1 : Nat.beq (tmpsOf fn.results.toList).length 1 = false) (h : Opds E ((tmpsOf fn.results.toList).map Operand.tmp) Us) (hs : Sub (TTup Us) T) : RetT E fn.results.toList T :=
  RetT.many hr h1 h hs
end

section
variable {P : Program} {L : List Res} {E : Env} {dst : Option Tmp} {ty : TypeId} {pos : String} {after : Array Edge} {gd : Option (Nat × Bool)}
/-- An element, by its place. -/
theorem op_indexD {x i : Operand} {α : Type} [Inhabited α] {sz : Nat} {f : α → List Ty} {l : List α} {n : Int} {k : IntKind} {t e : TypeId} (hx : Opd E x = some (TSl sz f l)) (hi : Opd E i = some (okI k n)) (hu : P.underlying t = some (.slice e)) (hsz : P.cellsOf e = sz) (hinf : (P.info? e).isSome = true)
    (h : 0 ≤ n ∧ n < (l.length : Int)) : OpP P L E ⟨dst, .indexAddr t x i, ty, pos, after, gd⟩ (TPc (f (l.getD n.toNat default))) :=
  op_index hx hi hu hsz hinf h.1 h.2 (by
    have : n.toNat < l.length := by omega
    simp [List.getD_eq_getElem?_getD, List.getElem?_eq_getElem this])
/-- byte(n). -/
def b8 (n : Int) : UInt8 := UInt8.ofNat (n % 256).toNat
theorem b8_toNat (n : Int) : ((b8 n).toNat : Int) = n % 256 := by
  unfold b8
  have h : (n % 256).toNat < 256 := by omega
  simp [UInt8.toNat_ofNat', Nat.mod_eq_of_lt h]
  omega
theorem op_byte {x : Operand} {k : IntKind} {m : Int} {st dt : TypeId} {ds : TypeDesc} (hx : Opd E x = some (okI k m)) (hs : P.underlying st = some ds) (hd : P.underlying dt = some (.int .u8)) : OpP P L E ⟨dst, .convert st dt x, ty, pos, after, gd⟩ (okI .u8 ((b8 m).toNat : Int)) := by
  have := op_convi (P := P) (L := L) (dst := dst) (ty := ty) (pos := pos) (after := after) (gd := gd) hx hs hd
  rwa [show IntKind.u8.wrap m = ((b8 m).toNat : Int) from by rw [b8_toNat, IntKind.wrap_u8]] at this
theorem CellsOf.b8 {m : Int} (h : 0 ≤ m ∧ m < 256) : CellsOf (okI .u8 m) (cB (b8 m)) := by
  have e : ((Vk.b8 m).toNat : Int) = m := by rw [b8_toNat]; omega
  unfold cB
  rw [e]
  exact .is rfl rfl
end
end Go.Vk
set_option linter.unusedVariables false
namespace Go.Vk

/-- The slots that an operation reads. -/
def readsOf (ops : Array Oper) (o : Oper) : List Tmp :=
  (o.op.operands.toList.filterMap fun | .tmp t => some t | _ => none) ++ (match o.guard with | some (j, _) => ((ops[j]?).bind (·.dst)).toList | none => [])
def edge (o : Oper) (j : Nat) : Bool := o.after.toList.any fun e => Region.binds .any e && Nat.beq e.on j
theorem edge.out {o : Oper} {j : Nat} (h : edge o j = true) : ∃ e ∈ o.after, Region.binds .any e = true ∧ e.on = j := by
  unfold edge at h
  rw [List.any_eq_true] at h
  obtain ⟨e, he, hb⟩ := h
  simp only [Bool.and_eq_true] at hb
  exact ⟨e, by simpa using he, hb.1, Nat.eq_of_beq_eq_true hb.2⟩
/-- What the theorem asks of the edges. -/
def chkA (ops : Array Oper) : Bool :=
  (List.range ops.size).all fun i => match ops[i]? with
    | none => true
    | some o =>
      (o.after.toList.all fun e => !Region.binds .any e || Nat.blt e.on i) &&
      (List.range ops.size).all fun j => match ops[j]? with
        | none => true
        | some p => (Nat.beq i j || o.dst.isNone || o.dst != p.dst) &&
          (match p.dst with
           | none => true
           | some d => !(readsOf ops o).contains d || (if Nat.blt j i then edge o j else !(Nat.beq i j) && edge p i))

structure ChkA (ops : Array Oper) : Prop where
  back : ∀ (i : Nat) (o : Oper), ops[i]? = some o → ∀ e ∈ o.after, Region.binds .any e = true → e.on < i
  one : ∀ (i j : Nat) (o p : Oper) (d : Nat), ops[i]? = some o → ops[j]? = some p → o.dst = some d → p.dst = some d → i = j
  reads : ∀ (i j : Nat) (o p : Oper) (d : Nat), ops[i]? = some o → ops[j]? = some p → p.dst = some d → d ∈ readsOf ops o → (j < i → edge o j = true) ∧ (i ≤ j → i ≠ j ∧ edge p i = true)

theorem ChkA.of {ops : Array Oper} (h : chkA ops = true) : ChkA ops := by
  unfold chkA at h
  rw [List.all_eq_true] at h
  have hi : ∀ (i : Nat) (o : Oper), ops[i]? = some o → (o.after.toList.all fun e => !Region.binds .any e || Nat.blt e.on i) = true ∧ ∀ (j : Nat) (p : Oper), ops[j]? = some p → (Nat.beq i j || o.dst.isNone || o.dst != p.dst) = true ∧
      (match p.dst with
           | none => true
           | some d => !(readsOf ops o).contains d || (if Nat.blt j i then edge o j else !(Nat.beq i j) && edge p i)) = true := by
    intro i o ho
    have hlt := (Array.getElem?_eq_some_iff.1 ho).1
    have h1 := h i (List.mem_range.2 hlt)
    rw [ho] at h1
    simp only [Bool.and_eq_true] at h1
    refine ⟨h1.1, fun j p hp => ?_⟩
    have hlt' := (Array.getElem?_eq_some_iff.1 hp).1
    have h2 := (List.all_eq_true.1 h1.2) j (List.mem_range.2 hlt')
    rw [hp] at h2
    simpa only [Bool.and_eq_true] using h2
  refine ⟨?_, ?_, ?_⟩
  · intro i o ho e he hb
    have h1 := (hi i o ho).1
    rw [List.all_eq_true] at h1
    have := h1 e (by simpa using he)
    rw [hb] at this
    simp only [Bool.not_true, Bool.false_or] at this
    exact Nat.le_of_ble_eq_true this
  · intro i j o p d ho hp h1 h2
    have h3 := ((hi i o ho).2 j p hp).1
    rw [h1, h2] at h3
    simp at h3
    exact h3
  · intro i j o p d ho hp h1 h2
    have h3 := ((hi i o ho).2 j p hp).2
    rw [h1] at h3
    have hc : (readsOf ops o).contains d = true := by simpa using h2
    simp only [hc, Bool.not_true, Bool.false_or] at h3
    refine ⟨fun hji => ?_, fun hij => ?_⟩
    · have : Nat.blt j i = true := Nat.ble_eq_true_of_le hji
      rw [this] at h3; simpa using h3
    · have : Nat.blt j i = false := by
        rw [Bool.eq_false_iff]; intro hb; have := Nat.le_of_ble_eq_true hb; omega
      rw [this] at h3
      simp at h3
      exact ⟨fun e => by subst e; simp at h3, h3.2⟩

/-- The operations' types, in the text's order. -/
def RegA (F : FCtx) (ops : Array Oper) (L : List Res) (fin : Env → Prop) : List Oper → Env → Prop
  | [], E => fin E
  | o :: rest, E => ∃ T, dstB F.N o = true ∧ OpG F.P ops L E o T ∧ RegA F ops L fin rest (E.put o.dst T)

def envAt (E : Env) : List Oper → List Ty → Env
  | o :: os, T :: Ts => envAt (E.put o.dst T) os Ts
  | _, _ => E

theorem RegA.types {F : FCtx} {ops : Array Oper} {L : List Res} {fin : Env → Prop} : ∀ (l : List Oper) (E : Env), RegA F ops L fin l E →
    ∃ Ts : List Ty, Ts.length = l.length ∧ fin (envAt E l Ts) ∧ ∀ (i : Nat) (o : Oper) (T : Ty), l[i]? = some o → Ts[i]? = some T → dstB F.N o = true ∧ OpG F.P ops L (envAt E (l.take i) (Ts.take i)) o T
  | [], E, h => ⟨[], rfl, h, fun i o T h1 => by simp at h1⟩
  | o :: l, E, ⟨T, hd, hop, hr⟩ => by
    obtain ⟨Ts, h1, h2, h3⟩ := RegA.types l _ hr
    refine ⟨T :: Ts, by simp [h1], h2, fun i o' T' e1 e2 => ?_⟩
    cases i with
    | zero => simp at e1 e2; subst e1; subst e2; exact ⟨hd, hop⟩
    | succ i => exact h3 i o' T' (by simpa using e1) (by simpa using e2)

theorem envAt_get : ∀ (l : List Oper) (Ts : List Ty) (E : Env) (t : Nat) (T : Ty), Ts.length = l.length → (envAt E l Ts).get t = some T →
    (∃ (j : Nat) (o : Oper), l[j]? = some o ∧ Ts[j]? = some T ∧ o.dst = some t) ∨ ((∀ (j : Nat) (o : Oper), l[j]? = some o → o.dst ≠ some t) ∧ E.get t = some T)
  | [], [], E, t, T, _, h => .inr ⟨fun j o e => by simp at e, h⟩
  | o :: l, U :: Ts, E, t, T, hl, h => by
    rcases envAt_get l Ts _ t T (by simpa using hl) h with ⟨j, p, h1, h2, h3⟩ | ⟨h1, h2⟩
    · exact .inl ⟨j + 1, p, by simpa using h1, by simpa using h2, h3⟩
    · cases hd : o.dst with
      | none =>
        rw [hd] at h2
        refine .inr ⟨fun j p e => ?_, h2⟩
        cases j with
        | zero => simp at e; subst e; rw [hd]; simp
        | succ j => exact h1 j p (by simpa using e)
      | some k =>
        rw [hd] at h2
        simp only [Env.put, Env.get] at h2
        by_cases hk : Nat.beq k t = true
        · rw [hk] at h2
          simp at h2; subst h2
          have := Nat.eq_of_beq_eq_true hk; subst this
          exact .inl ⟨0, o, rfl, rfl, hd⟩
        · have hk' : Nat.beq k t = false := Bool.eq_false_iff.2 hk
          rw [hk'] at h2
          refine .inr ⟨fun j p e => ?_, h2⟩
          cases j with
          | zero => simp at e; subst e; rw [hd]; intro e'; simp only [Option.some.injEq] at e'; subst e'; simp at hk
          | succ j => exact h1 j p (by simpa using e)
  | [], _ :: _, _, _, _, h, _ => by simp at h
  | _ :: _, [], _, _, _, h, _ => by simp at h

/-- How things stand when some of the operations have been run. -/
structure MidA (F : FCtx) (ops : Array Oper) (L : List Res) (E : Env) (Ts : List Ty) (S : Nat → Nat → Prop) (listed : Array Bool) (a : Act) (w : World) (G : Imm) : Prop where
  inv : Inv F L G w S
  size : a.tmps.size = F.N
  defers : a.defers = []
  lsize : listed.size = ops.size
  closed : ∀ (i : Nat) (o : Oper), ops[i]? = some o → listed.getD i false = true → ∀ e ∈ o.after, Region.binds .any e = true → listed.getD e.on false = true
  done : ∀ (i : Nat) (o : Oper) (T : Ty) (d : Nat), ops[i]? = some o → Ts[i]? = some T → listed.getD i false = true → o.dst = some d → T.p G (a.tmps.getD d undef)
  rest : ∀ (d : Nat) (T : Ty), E.get d = some T → (∀ (i : Nat) (o : Oper), ops[i]? = some o → o.dst = some d → listed.getD i false = false) → T.p G (a.tmps.getD d undef)

def unlisted (listed : Array Bool) : Nat := (listed.toList.filter (! ·)).length

theorem unlisted_set {listed : Array Bool} {i : Nat} (h : listed[i]? = some false) : unlisted (listed.setIfInBounds i true) + 1 = unlisted listed := by
  have key : ∀ (l : List Bool) (i : Nat), l[i]? = some false → ((l.set i true).filter (! ·)).length + 1 = (l.filter (! ·)).length := by
    intro l
    induction l with
    | nil => intro i h; simp at h
    | cons b l ih =>
      intro i h
      cases i with
      | zero => simp at h; subst h; simp
      | succ i =>
        have := ih i (by simpa using h)
        cases b <;> simp <;> omega
  have := key listed.toList i (by simpa using h)
  simpa [unlisted] using this

theorem mem_ready {ops : Array Oper} {listed : Array Bool} {i : Nat} (h : i ∈ Region.ready .any ops listed) : ∃ o, ops[i]? = some o ∧ listed.getD i true = false ∧ ∀ e ∈ o.after, Region.binds .any e = true → listed.getD e.on false = true := by
  unfold Region.ready at h
  rw [List.mem_filter] at h
  obtain ⟨_, h2⟩ := h
  cases ho : ops[i]? with
  | none => rw [ho] at h2; simp at h2
  | some o =>
    rw [ho] at h2
    simp only [Option.map_some, Option.getD_some, Bool.and_eq_true, Bool.not_eq_true'] at h2
    refine ⟨o, rfl, h2.1, fun e he hb => ?_⟩
    have := (Array.all_eq_true_iff_forall_mem.1 h2.2) e he
    rw [hb] at this
    simpa using this

theorem ready_nil {ops : Array Oper} {listed : Array Bool} (hc : ChkA ops) (hl : listed.size = ops.size) (h : Region.ready .any ops listed = []) : ∀ i, i < ops.size → listed.getD i false = true := by
  intro i
  induction i using Nat.strongRecOn with
  | _ i ih =>
    intro hi
    have hnot : i ∉ Region.ready .any ops listed := by rw [h]; simp
    unfold Region.ready at hnot
    rw [List.mem_filter] at hnot
    cases hb : listed.getD i false with
    | true => rfl
    | false =>
      exfalso
      apply hnot
      refine ⟨List.mem_range.2 hi, ?_⟩
      have ho : ops[i]? = some ops[i] := Array.getElem?_eq_getElem hi
      have hb' : listed.getD i true = false := by
        have hil : i < listed.size := by omega
        simp only [Array.getD_eq_getD_getElem?, Array.getElem?_eq_getElem hil, Option.getD_some] at hb ⊢
        exact hb
      rw [ho, hb']
      simp only [Option.map_some, Option.getD_some, Bool.not_false, Bool.true_and]
      rw [Array.all_eq_true_iff_forall_mem]
      intro e he
      cases hbe : Region.binds .any e with
      | false => rfl
      | true =>
        have hlt := hc.back i _ ho e he hbe
        rw [ih e.on hlt (by omega)]; rfl

theorem unlisted_zero {listed : Array Bool} (h : unlisted listed = 0) : ∀ i, i < listed.size → listed.getD i false = true := by
  intro i hi
  have h0 : listed.toList.filter (! ·) = [] := List.eq_nil_of_length_eq_zero h
  rw [List.filter_eq_nil_iff] at h0
  have := h0 listed[i] (by simp)
  simp only [Array.getD_eq_getD_getElem?, Array.getElem?_eq_getElem hi, Option.getD_some]
  simpa using this

theorem getD_set {listed : Array Bool} {i j : Nat} (hi : i < listed.size) : (listed.setIfInBounds i true).getD j false = if i = j then true else listed.getD j false := by
  simp only [Array.getD_eq_getD_getElem?, Array.getElem?_setIfInBounds]
  by_cases h : i = j
  · subst h; simp [hi]
  · simp [h]

theorem wpAny_of {F : FCtx} {ops : Array Oper} {L : List Res} {E : Env} {Ts : List Ty} {S : Nat → Nat → Prop} {Q : Exit → Act → World → Prop} (hc : ChkA ops) (hlen : Ts.length = ops.size) (hE : E.okB F.N = true)
    (hops : ∀ (i : Nat) (o : Oper) (T : Ty), ops[i]? = some o → Ts[i]? = some T → dstB F.N o = true ∧ OpG F.P ops L (envAt E (ops.toList.take i) (Ts.take i)) o T)
    (hfin : HX F (envAt E ops.toList Ts) L Q .normal) : ∀ (fuel : Nat) (listed : Array Bool) (a : Act) (w : World) (G : Imm), MidA F ops L E Ts S listed a w G → unlisted listed ≤ fuel → wpAny F.P .any ops Q fuel listed a w := by
  have hend : ∀ (listed : Array Bool) (a : Act) (w : World) (G : Imm), MidA F ops L E Ts S listed a w G → (∀ i, i < ops.size → listed.getD i false = true) → Q .normal a w := by
    intro listed a w G hm hall
    refine hfin a w G S hm.inv ⟨hm.size, hm.defers, fun t T e => ?_⟩
    rcases envAt_get ops.toList Ts E t T (by simpa using hlen) e with ⟨j, o, h1, h2, h3⟩ | ⟨h1, h2⟩
    · have h1' : ops[j]? = some o := by simpa using h1
      exact hm.done j o T t h1' h2 (hall j (Array.getElem?_eq_some_iff.1 h1').1) h3
    · exact hm.rest t T h2 fun i o ho hd => absurd hd (h1 i o (by simpa using ho))
  intro fuel
  induction fuel with
  | zero =>
    intro listed a w G hm hu
    have hall := unlisted_zero (Nat.le_zero.1 hu)
    refine ⟨?_, hend listed a w G hm (fun i hi => hall i (by rw [hm.lsize]; exact hi))⟩
    apply List.eq_nil_iff_forall_not_mem.2
    intro i hi
    obtain ⟨o, h1, h2, _⟩ := mem_ready hi
    have hlt : i < listed.size := by rw [hm.lsize]; exact (Array.getElem?_eq_some_iff.1 h1).1
    have := hall i hlt
    simp only [Array.getD_eq_getD_getElem?, Array.getElem?_eq_getElem hlt, Option.getD_some] at this h2
    rw [this] at h2; cases h2
  | succ fuel ih =>
    intro listed a w G hm hu
    refine ⟨fun hr => hend listed a w G hm (ready_nil hc hm.lsize hr), fun i hi => ?_⟩
    obtain ⟨o, ho, hnl, hed⟩ := mem_ready hi
    have hlt : i < ops.size := (Array.getElem?_eq_some_iff.1 ho).1
    have hlt' : i < listed.size := by rw [hm.lsize]; exact hlt
    have hli : listed[i]? = some false := by
      rw [Array.getElem?_eq_getElem hlt']
      simp only [Array.getD_eq_getD_getElem?, Array.getElem?_eq_getElem hlt', Option.getD_some] at hnl
      rw [hnl]
    have hnl' : listed.getD i false = false := by simp [Array.getD_eq_getD_getElem?, hli]
    obtain ⟨T, hT⟩ : ∃ T, Ts[i]? = some T := ⟨_, List.getElem?_eq_getElem (by omega)⟩
    obtain ⟨hd, hop⟩ := hops i o T ho hT
    -- what the operation reads
    have hread : ∀ t, t ∈ readsOf ops o → ∀ U, (envAt E (ops.toList.take i) (Ts.take i)).get t = some U → U.p G (a.tmps.getD t undef) := by
      intro t ht U hU
      rcases envAt_get _ _ E t U (by simp; omega) hU with ⟨j, p, h1, h2, h3⟩ | ⟨h1, h2⟩
      · have hji : j < i := by
          have := (List.getElem?_eq_some_iff.1 h1).1
          simp at this; omega
        rw [List.getElem?_take, if_pos hji] at h1 h2
        have h1' : ops[j]? = some p := by simpa using h1
        have hed' := (hc.reads i j o p t ho h1' h3 ht).1 hji
        have hlj : listed.getD j false = true := by
          obtain ⟨k, hk, hb, hj⟩ := edge.out hed'
          have := hed k hk hb
          rw [hj] at this
          exact this
        exact hm.done j p U t h1' h2 hlj h3
      · refine hm.rest t U h2 fun j p hp hdp => ?_
        by_cases hji : j < i
        · exact absurd hdp (h1 j p (by rw [List.getElem?_take, if_pos hji]; simpa using hp))
        · obtain ⟨hne, hed'⟩ := (hc.reads i j o p t ho hp hdp ht).2 (by omega)
          cases hlj : listed.getD j false with
          | false => rfl
          | true =>
            exfalso
            obtain ⟨k, hk, hb, hj⟩ := edge.out hed'
            have := hm.closed j p hp hlj k hk hb
            rw [hj, hnl'] at this
            cases this
    have htyped : TypedO (envAt E (ops.toList.take i) (Ts.take i)) G a o := by
      intro x hx U hU
      cases x with
      | tmp t =>
        refine hread t ?_ U hU
        unfold readsOf
        rw [List.mem_append]
        exact .inl (List.mem_filterMap.2 ⟨.tmp t, by simpa using hx, rfl⟩)
      | const v => cases hU; rfl
      | global g => cases hU; rfl
      | func f => cases hU; rfl
    have hstep := OpG.step (F := F) (Q := Q) (K := wpAny F.P .any ops Q fuel (listed.setIfInBounds i true)) (w := w) (S := S) hop hm.inv.ext.sat hm.inv.owns htyped
      (by
        intro j want d hg hdj Tg he
        have hmem : d ∈ readsOf ops o := by
          unfold readsOf
          rw [List.mem_append, hg]
          right
          simp [hdj]
        refine ⟨hread d hmem Tg he, yielded_of hdj hm.size ?_ want⟩
        have hoj : ∃ p, ops[j]? = some p ∧ p.dst = some d := by
          cases hj : ops[j]? with
          | none => rw [hj] at hdj; cases hdj
          | some p => rw [hj] at hdj; exact ⟨p, rfl, hdj⟩
        obtain ⟨p, hp, hpd⟩ := hoj
        obtain ⟨U, hU⟩ : ∃ U, Ts[j]? = some U := ⟨_, List.getElem?_eq_getElem (by rw [hlen]; exact (Array.getElem?_eq_some_iff.1 hp).1)⟩
        exact dstB.lt (hops j p U hp hU).1 d hpd)
      (by
        intro v w' G' hext hv
        refine ih _ _ _ G' ?_ (by have := unlisted_set hli; omega)
        refine ⟨hm.inv.step0 hext, (Act.put_size a o.dst v).trans hm.size, (Act.put_defers' a o.dst v).trans hm.defers, by simpa using hm.lsize, ?_, ?_, ?_⟩
        · intro j p hp hlj e he hb
          rw [getD_set hlt'] at hlj ⊢
          by_cases hij : i = j
          · subst hij
            rw [ho] at hp; cases hp
            split
            · rfl
            · exact hed e he hb
          · rw [if_neg hij] at hlj
            split
            · rfl
            · exact hm.closed j p hp hlj e he hb
        · intro j p U d hp hU hlj hpd
          rw [getD_set hlt'] at hlj
          by_cases hij : i = j
          · subst hij
            rw [ho] at hp; cases hp
            rw [hT] at hU; cases hU
            rw [hpd, Act.put_getD a d d v (by rw [hm.size]; exact dstB.lt hd d hpd), if_pos rfl]
            exact hv
          · rw [if_neg hij] at hlj
            have hold := U.mono hext.le (hm.done j p U d hp hU hlj hpd)
            cases hod : o.dst with
            | none => simpa [Act.put] using hold
            | some k =>
              have hk : k ≠ d := fun e => hij (hc.one i j o p d ho hp (by rw [hod, e]) hpd)
              rw [Act.put_getD a k d v (by rw [hm.size]; exact dstB.lt hd k hod), if_neg hk]
              exact hold
        · intro d U hU hno
          have hno' : ∀ (j : Nat) (p : Oper), ops[j]? = some p → p.dst = some d → listed.getD j false = false := by
            intro j p hp hpd
            have := hno j p hp hpd
            rw [getD_set hlt'] at this
            split at this
            · cases this
            · exact this
          have hold := U.mono hext.le (hm.rest d U hU hno')
          cases hod : o.dst with
          | none => simpa [Act.put] using hold
          | some k =>
            have hk : k ≠ d := by
              intro e
              have := hno i o ho (by rw [hod, e])
              rw [getD_set hlt', if_pos rfl] at this
              cases this
            rw [Act.put_getD a k d v (by rw [hm.size]; exact dstB.lt hd k hod), if_neg hk]
            exact hold)
    unfold wpOp
    rw [ho]
    dsimp only
    split
    · rename_i hw; rw [if_pos hw] at hstep; exact .inl hstep
    · rename_i hw; rw [if_neg hw] at hstep; exact hstep

theorem HT.regionA {F : FCtx} {E : Env} {L : List Res} {Q : Exit → Act → World → Prop} {id : Nat} {ops : Array Oper} (hm : F.P.follows .mixedOrders = true) (hE : E.okB F.N = true) (hc : chkA ops = true) (h : RegA F ops L (fun E' => HX F E' L Q .normal) ops.toList E) : HT F E L (.region id ops true) Q := by
  intro a w G S hi ht
  obtain ⟨Ts, h1, h2, h3⟩ := RegA.types _ _ h
  refine wp_region_any hm ?_
  have hdrew : Ext noZ G w G { w with drawn := w.drawn + 1 } := ⟨fun b o v hb => hi.ext.sat b o v hb, Imm.le.refl G, rfl, rfl, rfl, Nat.le_refl _, fun _ _ _ => ⟨rfl, fun _ => rfl⟩⟩
  refine wpAny_of (S := S) (Ts := Ts) (E := E) (L := L) (ChkA.of hc) (by simpa using h1) hE (fun i o T ho hT => ?_) h2 _ _ _ _ G ?_ ?_
  · exact h3 i o T (by simpa using ho) hT
  · refine ⟨hi.step0 hdrew, ht.size, ht.defers, by simp, ?_, ?_, fun d T hd _ => ht.get d T hd⟩
    · intro i o ho hl; simp [Array.getD_eq_getD_getElem?, Array.getElem?_replicate] at hl; split at hl <;> simp at hl
    · intro i o T d ho hT hl; simp [Array.getD_eq_getD_getElem?, Array.getElem?_replicate] at hl; split at hl <;> simp at hl
  · simp only [unlisted, Array.toList_replicate]
    exact Nat.le_trans (List.length_filter_le _ _) (by simp)

theorem HT.regionAl {F : FCtx} {E : Env} {L : List Res} {Q : Exit → Act → World → Prop} {id : Nat} {l : List Oper} (hm : F.P.follows .mixedOrders = true) (hE : E.okB F.N = true) (hc : chkA l.toArray = true) (h : RegA F l.toArray L (fun E' => HX F E' L Q .normal) l E) : HT F E L (.region id l.toArray true) Q :=
  HT.regionA hm hE hc (by simpa using h)
section
variable {F : FCtx} {E : Env} {L : List Res} {fin : Env → Prop} {ops : Array Oper} {o : Oper} {rest : List Oper}
theorem RegA.nil (h : fin E) : RegA F ops L fin [] E := h
theorem RegA.fe {d : Nat} {op : Op} {ty : TypeId} {pos : String} {after : Array Edge} (hd : Nat.blt d F.N = true) (h : ∃ T, OpP F.P L E ⟨some d, op, ty, pos, after, none⟩ T ∧ RegA F ops L fin rest ((d, T) :: E)) : RegA F ops L fin (⟨some d, op, ty, pos, after, none⟩ :: rest) E :=
  let ⟨T, h1, h2⟩ := h; ⟨T, hd, .free rfl h1, h2⟩
theorem RegA.fn {op : Op} {ty : TypeId} {pos : String} {after : Array Edge} (h : ∃ T, OpP F.P L E ⟨none, op, ty, pos, after, none⟩ T ∧ RegA F ops L fin rest E) : RegA F ops L fin (⟨none, op, ty, pos, after, none⟩ :: rest) E :=
  let ⟨T, h1, h2⟩ := h; ⟨T, rfl, .free rfl h1, h2⟩
theorem RegA.ge {d' : Nat} {op : Op} {ty : TypeId} {pos : String} {after : Array Edge} {j : Nat} {want b : Bool} {d : Nat} (hd : Nat.blt d' F.N = true) (hj : (ops[j]?).bind (·.dst) = some d) (he : E.get d = some (Is (.bool b))) (h : ∃ T, (b = want → OpP F.P L E ⟨some d', op, ty, pos, after, some (j, want)⟩ T) ∧ RegA F ops L fin rest ((d', TIf (b = want) T) :: E)) : RegA F ops L fin (⟨some d', op, ty, pos, after, some (j, want)⟩ :: rest) E :=
  let ⟨T, h1, h2⟩ := h; ⟨_, hd, .guarded rfl hj he (.is b want) h1, h2⟩
theorem RegA.gn {d' : Nat} {op : Op} {ty : TypeId} {pos : String} {after : Array Edge} {j : Nat} {want b : Bool} {d : Nat} {c : Prop} (hd : Nat.blt d' F.N = true) (hj : (ops[j]?).bind (·.dst) = some d) (he : E.get d = some (TIf c (Is (.bool b)))) (h : ∃ T, (c ∧ b = want → OpP F.P L E ⟨some d', op, ty, pos, after, some (j, want)⟩ T) ∧ RegA F ops L fin rest ((d', TIf (c ∧ b = want) T) :: E)) : RegA F ops L fin (⟨some d', op, ty, pos, after, some (j, want)⟩ :: rest) E :=
  let ⟨T, h1, h2⟩ := h; ⟨_, hd, .guarded rfl hj he (.nest c b want) h1, h2⟩
end
section
variable {P : Program} {L : List Res} {E : Env} {dst : Option Tmp} {op : Op} {ty : TypeId} {pos : String} {after : Array Edge} {gd : Option (Nat × Bool)} {K : Ty → Prop}
/-- The operation is of this form: the goal stays. -/
theorem isO (op : Op) (h : ∃ T, OpP P L E ⟨dst, op, ty, pos, after, gd⟩ T ∧ K T) : ∃ T, OpP P L E ⟨dst, op, ty, pos, after, gd⟩ T ∧ K T := h
theorem isG (op : Op) {c : Prop} (h : ∃ T, (c → OpP P L E ⟨dst, op, ty, pos, after, gd⟩ T) ∧ K T) : ∃ T, (c → OpP P L E ⟨dst, op, ty, pos, after, gd⟩ T) ∧ K T := h
theorem isS (op : Op) {F : FCtx} {Q : Exit → Act → World → Prop} {ops : Array Oper} {rest : List Oper} (h : RegS F ops Q (⟨dst, op, ty, pos, after, gd⟩ :: rest) E L) : RegS F ops Q (⟨dst, op, ty, pos, after, gd⟩ :: rest) E L := h
end
theorem isHX {F : FCtx} {E : Env} {L : List Res} {Q : Exit → Act → World → Prop} {e : Exit} (h : HX F E L Q e) : HX F E L Q e := h
theorem isHT {F : FCtx} {E : Env} {L : List Res} {Q : Exit → Act → World → Prop} {c : Code} (h : HT F E L c Q) : HT F E L c Q := h
theorem isRS {F : FCtx} {E : Env} {L : List Res} {Q : Exit → Act → World → Prop} {ops : Array Oper} {l : List Oper} (h : RegS F ops Q l E L) : RegS F ops Q l E L := h
theorem isRA {F : FCtx} {E : Env} {L : List Res} {fin : Env → Prop} {ops : Array Oper} {l : List Oper} (h : RegA F ops L fin l E) : RegA F ops L fin l E := h
end Go.Vk
set_option linter.unusedVariables false
namespace Go.Ber
open Go.Vk

/-- Bytes, the highest first, as a number. -/
def be (n : Int) (l : List UInt8) : Int := l.foldl (fun n c => n * 256 + (c.toNat : Int)) n
def bitsLow (c : UInt8) : Bool := decide ((c &&& b8 31).toNat = 31)
theorem all256 {p : UInt8 → Prop} [DecidablePred p] (h : ∀ n : Fin 256, p (UInt8.ofNat n.val)) (c : UInt8) : p c := by
  have := h ⟨c.toNat, c.toNat_lt⟩
  simpa using this
theorem andn128 (c : UInt8) (h : ¬ c.toNat < 128) : (c &&& ~~~ (b8 128)).toNat = c.toNat - 128 := by
  revert h
  exact all256 (p := fun c => ¬ c.toNat < 128 → (c &&& ~~~ (b8 128)).toNat = c.toNat - 128) (by decide +kernel) c
theorem be_snoc (n : Int) (l : List UInt8) (k : Nat) (h : k < l.length) : be n (l.take (k + 1)) = be n (l.take k) * 256 + ((l.getD k 0).toNat : Int) := by
  rw [List.take_succ_eq_append_getElem h, be, List.foldl_append, List.getD_eq_getElem?_getD, List.getElem?_eq_getElem h]
  rfl
theorem be_bound (l : List UInt8) : 0 ≤ be 0 l ∧ be 0 l < 256 ^ l.length := by
  have key : ∀ (l : List UInt8) (n : Int), 0 ≤ n → 0 ≤ be n l ∧ be n l < (n + 1) * 256 ^ l.length := by
    intro l
    induction l with
    | nil => intro n h; simp [be]; omega
    | cons c l ih =>
      intro n h
      have hc := c.toNat_lt
      obtain ⟨h1, h2⟩ := ih (n * 256 + (c.toNat : Int)) (by omega)
      refine ⟨h1, Int.lt_of_lt_of_le h2 ?_⟩
      rw [List.length_cons, Int.pow_succ, Int.mul_comm (256 ^ l.length) 256, ← Int.mul_assoc]
      exact Int.mul_le_mul_of_nonneg_right (by omega) (Int.le_of_lt (Int.pow_pos (by decide)))
  have := key l 0 (by omega)
  simpa using this
theorem be_small (l : List UInt8) (h : l.length ≤ 4) : 0 ≤ be 0 l ∧ be 0 l ≤ 4294967295 := by
  obtain ⟨h1, h2⟩ := be_bound l
  refine ⟨h1, ?_⟩
  have h3 : ∀ n, n ≤ 4 → (256 : Int) ^ n ≤ 4294967296 := by decide
  have := h3 _ h
  omega

/-- The bytes of a length of several bytes, ahead of some. -/
def lenAcc : Nat → Int → List UInt8 → List UInt8
  | 0, _, b => b
  | k + 1, n, b => if 0 < n then lenAcc k (n / 256) (b8 n :: b) else b
def lenB (n : Int) : List UInt8 := if n < 128 then [b8 n] else
  let b := lenAcc 8 n []
  b8 (128 + b.length) :: b

/-- A head: from where the body stands, how long it is, the error. -/
def headB (b : List UInt8) : Int × Int × Int :=
  if (b.length : Int) < 1 then (0, 0, 2)
  else if ((b.getD 0 0 &&& b8 31).toNat : Int) = 31 then (0, 0, 3)
  else if (b.length : Int) < 2 then (0, 0, 2)
  else if ((b.getD 1 0).toNat : Int) < 128 then (2, ((b.getD 1 0).toNat : Int), 0)
  else if ((b.getD 1 0 &&& ~~~ (b8 128)).toNat : Int) = 0 ∨ 4 < ((b.getD 1 0 &&& ~~~ (b8 128)).toNat : Int) then (0, 0, 3)
  else if (b.length : Int) < 2 + ((b.getD 1 0 &&& ~~~ (b8 128)).toNat : Int) then (0, 0, 2)
  else (2 + ((b.getD 1 0 &&& ~~~ (b8 128)).toNat : Int), be 0 ((b.take (2 + ((b.getD 1 0 &&& ~~~ (b8 128)).toNat : Int)).toNat).drop (Int.toNat 2)), 0)
structure NextR where
  tag : UInt8
  body : List UInt8
  rest : List UInt8
  e : Int
def nextB (b : List UInt8) : NextR :=
  let h := headB b
  if h.2.2 ≠ 0 then ⟨0, [], [], h.2.2⟩
  else if 65536 < h.2.1 then ⟨0, [], [], 5⟩
  else if (b.length : Int) - h.1 < h.2.1 then ⟨0, [], [], 2⟩
  else ⟨b.getD 0 0, (b.take (h.1 + h.2.1).toNat).drop h.1.toNat, b.drop (h.1 + h.2.1).toNat, 0⟩
theorem headB_ok (b : List UInt8) : 0 ≤ (headB b).1 ∧ (headB b).1 ≤ 300 ∧ 0 ≤ (headB b).2.1 ∧ (headB b).2.1 ≤ 4294967295 ∧ ((headB b).2.2 = 0 → 2 ≤ (headB b).1 ∧ (headB b).1 ≤ (b.length : Int)) := by
  unfold headB
  have h1 := (b.getD 1 0).toNat_lt
  have h2 := (b.getD 1 0 &&& ~~~ (b8 128)).toNat_lt
  generalize hx : (b.getD 1 0 &&& ~~~ (b8 128)).toNat = x at *
  generalize (b.getD 1 0).toNat = y at *
  have h4 : x ≤ 4 → 0 ≤ be 0 ((b.take (2 + (x : Int)).toNat).drop (Int.toNat 2)) ∧ be 0 ((b.take (2 + (x : Int)).toNat).drop (Int.toNat 2)) ≤ 4294967295 := fun h => be_small _ (by simp only [List.length_drop, List.length_take]; omega)
  generalize be 0 ((b.take (2 + (x : Int)).toNat).drop (Int.toNat 2)) = z at *
  repeat' split
  all_goals dsimp only
  all_goals omega
theorem nextB_len (b : List UInt8) : (nextB b).body.length ≤ b.length ∧ (nextB b).rest.length ≤ b.length ∧ ((nextB b).e = 0 → (nextB b).rest.length + 2 ≤ b.length) := by
  have h := headB_ok b
  unfold nextB
  dsimp only
  repeat' split
  all_goals dsimp only
  all_goals (first | (simp; done) | skip)
  · simp; omega
  · simp only [List.length_drop, List.length_take]
    omega
theorem lenB_or : ∀ k : Nat, k ≤ 8 → (b8 128 ||| b8 (k : Int)) = b8 (128 + (k : Int)) := by decide
def rb : Nat → Int
  | 0 => 128
  | k + 1 => 256 * rb k
theorem rb7 : rb 7 = 9223372036854775808 := by decide
theorem rb_pos : ∀ k, 128 ≤ rb k
  | 0 => Int.le_refl _
  | k + 1 => by have := rb_pos k; simp only [rb]; omega
theorem be_rb (l : List UInt8) (n : Int) (h : -128 ≤ n ∧ n ≤ 127) : -(rb l.length) ≤ be n l ∧ be n l < rb l.length := by
  have key : ∀ (l : List UInt8) (n : Int) (j : Nat), -(rb j) ≤ n → n < rb j → -(rb (j + l.length)) ≤ be n l ∧ be n l < rb (j + l.length) := by
    intro l
    induction l with
    | nil => intro n j h1 h2; exact ⟨h1, h2⟩
    | cons c l ih =>
      intro n j h1 h2
      have hc := c.toNat_lt
      have := ih (n * 256 + (c.toNat : Int)) (j + 1) (by simp only [rb]; omega) (by simp only [rb]; omega)
      rw [show j + (c :: l).length = j + 1 + l.length from by simp; omega]
      exact this
  have := key l n 0 (by simp only [rb]; omega) (by simp only [rb]; omega)
  simpa using this
theorem rb_mono {j k : Nat} (h : j ≤ k) : rb j ≤ rb k := by
  induction k with
  | zero => rw [Nat.le_zero.1 h]; exact Int.le_refl _
  | succ k ih =>
    rcases Nat.lt_or_ge j (k + 1) with h1 | h1
    · have := ih (by omega); have := rb_pos k; simp only [rb]; omega
    · rw [show j = k + 1 from by omega]; exact Int.le_refl _
theorem be_rb7 (l : List UInt8) {n : Int} (h : -128 ≤ n ∧ n ≤ 127) (hl : l.length ≤ 6) : -36028797018963968 ≤ be n l ∧ be n l ≤ 36028797018963967 := by
  have h1 := be_rb l n h
  have h2 := rb_mono hl
  rw [show rb 6 = 36028797018963968 from by decide] at h2
  omega
theorem rb6 : rb 6 = 36028797018963968 := by decide
/-- A number's bytes. -/
def intAcc : Nat → Int → List UInt8 → List UInt8
  | 0, _, b => b
  | k + 1, n, b => if 127 < n ∨ n < -128 then intAcc k (n / 256) (b8 (n / 256) :: b) else b
def intB (n : Int) : List UInt8 := intAcc 7 n [b8 n]
def s8 (c : UInt8) : Int := IntKind.i8.wrap (c.toNat : Int)
theorem s8_bd (c : UInt8) : -128 ≤ s8 c ∧ s8 c ≤ 127 := by
  have := c.toNat_lt
  unfold s8 IntKind.wrap
  simp [IntKind.bits, IntKind.signed]
  split <;> omega
def fromIntB (b : List UInt8) : Int × Int :=
  if (b.length : Int) < 1 ∨ 8 < (b.length : Int) then (0, 3) else (be (s8 (b.getD 0 0)) (b.drop (Int.toNat 1)), 0)
def tot (ls : List (List UInt8)) : Nat := (ls.map List.length).sum
theorem tot_flat (ls : List (List UInt8)) : ls.flatten.length = tot ls := by simp [tot, List.length_flatten]
theorem take_snocD {α : Type} [Inhabited α] (l : List α) (k : Nat) (h : k < l.length) : l.take (k + 1) = l.take k ++ [l.getD k default] := by
  rw [List.take_succ_eq_append_getElem h, List.getD_eq_getElem?_getD, List.getElem?_eq_getElem h]; rfl
theorem tot_snoc (ls : List (List UInt8)) (k : Nat) (h : k < ls.length) : tot (ls.take (k + 1)) = tot (ls.take k) + (ls.getD k default).length := by
  rw [take_snocD ls k h]; simp [tot]
theorem tot_append (a b : List (List UInt8)) : tot (a ++ b) = tot a + tot b := by simp [tot]
theorem tot_take (ls : List (List UInt8)) (k : Nat) : tot (ls.take k) ≤ tot ls := by
  have := tot_append (ls.take k) (ls.drop k)
  rw [List.take_append_drop] at this
  omega
theorem tot_get (ls : List (List UInt8)) (k : Nat) (h : k < ls.length) : tot (ls.take k) + (ls.getD k default).length ≤ tot ls := by
  rw [← tot_snoc ls k h]; exact tot_take ls _
theorem lenAcc_len : ∀ (k : Nat) (n : Int) (b : List UInt8), (lenAcc k n b).length ≤ k + b.length
  | 0, _, b => by simp [lenAcc]
  | k + 1, n, b => by
    unfold lenAcc
    split
    · have := lenAcc_len k (n / 256) (b8 n :: b); simp at this; omega
    · omega
theorem lenB_len (n : Int) : (lenB n).length ≤ 9 := by
  unfold lenB
  split
  · simp
  · have := lenAcc_len 8 n []; simp at this ⊢; omega
def tagB (tag : UInt8) (ls : List (List UInt8)) : List UInt8 := tag :: (lenB (tot ls : Int) ++ ls.flatten)
end Go.Ber
