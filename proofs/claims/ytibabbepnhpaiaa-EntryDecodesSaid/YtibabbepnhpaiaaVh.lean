/-
  Rules for conversions of texts, equality of structs, least and greatest, functions as values. Nothing here speaks of a program; no conditions.
-/
import Derived.Test.YtibabbepnhpaiaaVg
import Derived.Laws.IdiomStrings
set_option linter.unusedVariables false
namespace Go.Vk
section
variable {P : Program} {L : List Res} {E : Env} {dst : Option Tmp} {ty : TypeId} {pos : String} {after : Array Edge} {gd : Option (Nat × Bool)}
/-- []byte(s). -/
theorem op_bytesOf {x : Operand} {l : List UInt8} {st dt e : TypeId} (hx : Opd E x = some (Is (str l))) (hs : P.underlying st = some .string) (hd : P.underlying dt = some (.slice e)) (he : P.underlying e = some (.int .u8)) (hl : (l.length : Int) ≤ 9223372036854775807) :
    OpP P L E ⟨dst, .convert st dt x, ty, pos, after, gd⟩ (TBytes l) :=
  OpP.laid fun a w G S hsat _ ho => by
    have h1 : a.eval x = str l := ho x (by simp [Op.operands]) _ hx
    have hr := run_bytes_of_string (P := P) w st dt e (ByteArray.mk l.toArray) hs hd he
    rw [size_str] at hr
    have hge := grownCap_ge w l.length 0 e
    have hcm := grownCap_le_maxLen w l.length 0 e (by simp only [maxLen]; omega)
    obtain ⟨hext, hsl, _⟩ := fresh_sl (f := cB) (sz := 1) (l := l) (vs := l.map fun c => Value.int .u8 (c.toNat : Int)) (cap := grownCap w l.length 0 e) (e := e)
      (cells := bytesRow (ByteArray.mk l.toArray) (grownCap w l.length 0 e)) (fr := ((bytesRow (ByteArray.mk l.toArray) (grownCap w l.length 0 e)).size, (bytesRow (ByteArray.mk l.toArray) (grownCap w l.length 0 e)).size + 1))
      (w1 := w.drew.alloc (.cells (bytesRow (ByteArray.mk l.toArray) (grownCap w l.length 0 e)) e ((bytesRow (ByteArray.mk l.toArray) (grownCap w l.length 0 e)).size, (bytesRow (ByteArray.mk l.toArray) (grownCap w l.length 0 e)).size + 1)))
      hsat rfl rfl rfl rfl (by simp [bytesRow]) hge hcm (by simp) (fun y _ => rfl) (fun i y hy j T hj => by
        cases j with
        | succ j => simp [cB] at hj
        | zero =>
          simp [cB] at hj; subst hj
          exact ⟨.int .u8 (y.toNat : Int), by simp [hy], rfl, rfl⟩)
    refine ⟨_, _, _, ?_, hext, hsl false (fun e => by cases e)⟩
    simp only [execOp, h1, str]
    simp [hr]

/-! ### equality of structs -/
/-- Two fields of one cell: whether they are one. -/
structure FEq (P : Program) (ft : TypeId) (T U : Ty) (b : Bool) : Prop where
  ag : aggB P ft = some false
  eq : ∀ G u v (w : World) (d : Nat), T.p G u → U.p G v → (Op.equalIn (d + 1) ft u v).run P w = .ok b w
theorem FEq.int {ft : TypeId} {k k' : IntKind} {m n : Int} (hu : P.underlying ft = some (.int k')) : FEq P ft (okI k m) (okI k n) (decide (m = n)) :=
  ⟨by simp [aggB, hu], fun G u v w d h1 h2 => by cases h1; cases h2; rw [run_equalIn_int w d ft k k' m n hu]; rfl⟩
theorem FEq.bool {ft : TypeId} {m n : Bool} (hu : P.underlying ft = some .bool) : FEq P ft (Is (.bool m)) (Is (.bool n)) (m == n) :=
  ⟨by simp [aggB, hu], fun G u v w d h1 h2 => by cases h1; cases h2; exact run_equalIn_bool' w d ft m n hu⟩
theorem FEq.str {ft : TypeId} {m n : List UInt8} (hu : P.underlying ft = some .string) : FEq P ft (Is (str m)) (Is (str n)) (decide (m = n)) :=
  ⟨by simp [aggB, hu], fun G u v w d h1 h2 => by
    cases h1; cases h2
    have := run_equalIn_string (P := P) w d ft (ByteArray.mk m.toArray) (ByteArray.mk n.toArray) hu
    rw [str_toList, str_toList] at this
    rw [show Vk.str m = Value.string (ByteArray.mk m.toArray) from rfl, show Vk.str n = Value.string (ByteArray.mk n.toArray) from rfl, this]
    by_cases h : m = n <;> simp [h]⟩
def FEqs (P : Program) : List Field → Nat → List Ty → List Ty → List Bool → Prop
  | [], _, [], [], [] => True
  | f :: fs, j, T :: ts, U :: us, b :: bs => (f.name ≠ "_" ∧ f.offset = j) ∧ FEq P f.type T U b ∧ FEqs P fs (j + 1) ts us bs
  | _, _, _, _, _ => False
theorem FEqs.nil {j : Nat} : FEqs P [] j [] [] [] := trivial
theorem FEqs.cons {f : Field} {fs : List Field} {j : Nat} {T U : Ty} {ts us : List Ty} {b : Bool} {bs : List Bool} (h1 : (f.name == "_") = false) (h2 : f.offset = j) (h : FEq P f.type T U b) (k : FEqs P fs (j + 1) ts us bs) : FEqs P (f :: fs) j (T :: ts) (U :: us) (b :: bs) := ⟨⟨fun e => by rw [e] at h1; simp at h1, h2⟩, h, k⟩
def allB : List Bool → Bool
  | [] => true
  | [b] => b
  | b :: bs => b && allB bs
theorem allB_cons (b : Bool) (bs : List Bool) : allB (b :: bs) = (b && allB bs) := by cases bs <;> simp [allB]
theorem FEqs.run {G : Imm} {w : World} {d : Nat} {xs ys : Array Value} : ∀ (fs : List Field) (j : Nat) (ts us : List Ty) (bs : List Bool), FEqs P fs j ts us bs →
    (∀ (i : Nat) (T : Ty), ts[i]? = some T → ∃ u, xs[j + i]? = some u ∧ T.p G u) → (∀ (i : Nat) (T : Ty), us[i]? = some T → ∃ u, ys[j + i]? = some u ∧ T.p G u) → (Op.eqFields (d + 1) xs ys fs).run P w = .ok (allB bs) w
  | [], _, [], [], [], _, _, _ => by simp [Op.eqFields, allB]
  | f :: fs, j, T :: ts, U :: us, b :: bs, ⟨⟨h1, h2⟩, h, k⟩, hx, hy => by
    obtain ⟨u, hu, hTu⟩ := hx 0 T rfl
    obtain ⟨v, hv, hUv⟩ := hy 0 U rfl
    have ih := FEqs.run (w := w) (d := d) fs (j + 1) ts us bs k (fun i T' e => by
      obtain ⟨u', a, b⟩ := hx (i + 1) T' (by simpa using e)
      exact ⟨u', by rw [show j + 1 + i = j + (i + 1) from by omega]; exact a, b⟩) (fun i T' e => by
      obtain ⟨u', a, b⟩ := hy (i + 1) T' (by simpa using e)
      exact ⟨u', by rw [show j + 1 + i = j + (i + 1) from by omega]; exact a, b⟩)
    simp only [Nat.add_zero] at hu hv
    subst h2
    rw [allB_cons]
    simp only [Op.eqFields, if_pos h1, Sem.run_bind, run_partAt w h.ag hu, run_partAt w h.ag hv, Result.andThen_ok, h.eq G u v w d hTu hUv]
    cases b
    · simp
    · simp [ih]
theorem run_eqAgg {t : TypeId} {fs : List Field} {ts us : List Ty} {bs : List Bool} {G : Imm} {w : World} {xs ys : List Value} (hu : P.underlying t = some (.struct (P.fieldsOf t))) (hp : P.stoodInHeld t = false) (hfs : (P.fieldsOf t).toList = fs) (h : FEqs P fs 0 ts us bs)
    (hx : (TAgg ts).p G (.agg xs.toArray)) (hy : (TAgg us).p G (.agg ys.toArray)) : (Op.equalIn 10000 t (.agg xs.toArray) (.agg ys.toArray)).run P w = .ok (allB bs) w := by
  have hc : ∀ (ts : List Ty) (xs : List Value), (TAgg ts).p G (.agg xs.toArray) → ∀ (i : Nat) (T : Ty), ts[i]? = some T → ∃ u, xs.toArray[0 + i]? = some u ∧ T.p G u := by
    rintro ts xs ⟨vs, e, hl, hv⟩ i T hi
    have hilt := (List.getElem?_eq_some_iff.1 hi).1
    have : xs = vs := by simpa using e
    subst this
    obtain ⟨u, hu⟩ : ∃ u, xs[i]? = some u := ⟨_, List.getElem?_eq_getElem (by omega)⟩
    exact ⟨u, by simpa using hu, (hv i T u hi hu).1⟩
  rw [show (10000 : Nat) = 9998 + 1 + 1 from rfl, run_equalIn_struct w (9998 + 1) t _ _ hu hp, hfs]
  exact FEqs.run fs 0 ts us bs h (hc ts xs hx) (hc us ys hy)
theorem op_eqAgg {x y : Operand} {ts us : List Ty} {bs : List Bool} {t yt : TypeId} {fs : List Field} (hx : Opd E x = some (TAgg ts)) (hy : Opd E y = some (TAgg us)) (hu : P.underlying t = some (.struct (P.fieldsOf t))) (hp : P.stoodInHeld t = false) (hm : P.eqGuardType P.depth t = false) (hfs : (P.fieldsOf t).toList = fs) (h : FEqs P fs 0 ts us bs) :
    OpP P L E ⟨dst, .binOp .eql t x y yt, ty, pos, after, gd⟩ (Is (.bool (allB bs))) :=
  OpP.same fun a w G S _ _ ho => by
    have h1 := ho x (by simp [Op.operands]) _ hx
    have h2 := ho y (by simp [Op.operands]) _ hy
    obtain ⟨xs, e1, _⟩ := id h1
    obtain ⟨ys, e2, _⟩ := id h2
    rw [e1] at h1
    rw [e2] at h2
    refine ⟨.bool (allB bs), ?_, rfl⟩
    have hr := run_eqAgg (w := w) hu hp hfs h h1 h2
    simp only [execOp, e1, e2, Sem.run_bind, run_eqGuard_agg w .eql t x y _ _ hm, Result.andThen_ok, run_eql_struct, hr, Sem.run_pure]
theorem op_neAgg {x y : Operand} {ts us : List Ty} {bs : List Bool} {t yt : TypeId} {fs : List Field} (hx : Opd E x = some (TAgg ts)) (hy : Opd E y = some (TAgg us)) (hu : P.underlying t = some (.struct (P.fieldsOf t))) (hp : P.stoodInHeld t = false) (hm : P.eqGuardType P.depth t = false) (hfs : (P.fieldsOf t).toList = fs) (h : FEqs P fs 0 ts us bs) :
    OpP P L E ⟨dst, .binOp .neq t x y yt, ty, pos, after, gd⟩ (Is (.bool (!allB bs))) :=
  OpP.same fun a w G S _ _ ho => by
    have h1 := ho x (by simp [Op.operands]) _ hx
    have h2 := ho y (by simp [Op.operands]) _ hy
    obtain ⟨xs, e1, _⟩ := id h1
    obtain ⟨ys, e2, _⟩ := id h2
    rw [e1] at h1
    rw [e2] at h2
    refine ⟨.bool (!allB bs), ?_, rfl⟩
    have hr := run_eqAgg (w := w) hu hp hfs h h1 h2
    simp only [execOp, e1, e2, Sem.run_bind, run_eqGuard_agg w .neq t x y _ _ hm, Result.andThen_ok, run_neq_struct, hr, Sem.run_pure]

/-! ### functions as values -/
def FnP (f : FuncId) (Cs : List Ty) (G : Imm) (v : Value) : Prop := ∃ vs : List Value, v = .func (.func f) #[] vs.toArray ∧ ArgsT G Cs vs
theorem ArgsT.mono {G G' : Imm} (h : Imm.le G G') : ∀ {A : List Ty} {vs : List Value}, ArgsT G A vs → ArgsT G' A vs
  | [], [], _ => trivial
  | T :: A, v :: vs, ⟨h1, h2⟩ => ⟨T.mono h h1, ArgsT.mono h h2⟩
  | [], _ :: _, h' => h'.elim
  | _ :: _, [], h' => h'.elim
theorem ArgsT.append {G : Imm} : ∀ {A B : List Ty} {vs us : List Value}, ArgsT G A vs → ArgsT G B us → ArgsT G (A ++ B) (vs ++ us)
  | [], _, [], _, _, h => h
  | _ :: _, _, _ :: _, _, ⟨h1, h2⟩, h => ⟨h1, ArgsT.append h2 h⟩
  | [], _, _ :: _, _, h', _ => h'.elim
  | _ :: _, _, [], _, h', _ => h'.elim
/-- A function's value: which function, and what it has captured. -/
def TFn (f : FuncId) (Cs : List Ty) : Ty := ⟨FnP f Cs, fun h ⟨vs, e, k⟩ => ⟨vs, e, k.mono h⟩⟩
theorem Sub.fn (f : FuncId) : Sub (Is (.func (.func f) #[] #[])) (TFn f []) := fun G v h => by cases h; exact ⟨[], rfl, trivial⟩
theorem CellsOf.fn (f : FuncId) (Cs : List Ty) : CellsOf (TFn f Cs) [TFn f Cs] := .one fun G v ⟨vs, e, _⟩ => by subst e; exact ⟨rfl, rfl⟩
theorem One.fn (f : FuncId) (Cs : List Ty) : One (TFn f Cs) := fun _ _ ⟨_, e, _⟩ => by rw [e]; rfl
theorem op_makeFunc {f : FuncId} {xs : List Operand} {Cs : List Ty} (hx : Opds E xs Cs) : OpP P L E ⟨dst, .makeFunc (.func f) #[] xs.toArray, ty, pos, after, gd⟩ (TFn f Cs) :=
  OpP.same fun a w G S _ _ ho => by
    have h := Opds.args (G := G) (a := a) xs Cs hx (fun x hx' => ho x (by simp [Op.operands, hx']))
    exact ⟨.func (.func f) #[] (xs.map a.eval).toArray, by simp [execOp, Instr.makeFunc], _, rfl, h⟩
theorem exCallV {f : FuncId} {A Cs : List Ty} {T : Ty} {t : Tmp} {xs : List Operand} {tys : Array TypeId} {c : Prop} {K : Ty → Prop} (ht : E.get t = some (TFn f Cs)) (hx : Opds E xs A) (hf : c → CFn P f (A ++ Cs) T) (k : K T) :
    ∃ T, (c → OpP P L E ⟨dst, .call { callee := .value (.tmp t), args := xs.toArray, argTypes := tys }, ty, pos, after, gd⟩ T) ∧ K T := by
  refine ⟨T, fun hc => ?_, k⟩
  intro a w G S hs ho htt K Q k
  have hf := hf hc
  obtain ⟨vs, e, hvs⟩ := htt (.tmp t) (by simp [Op.operands, Call.operands]) _ ht
  have hargs := Opds.args (G := G) (a := a) xs A hx (fun x hx' => htt x (by simp [Op.operands, Call.operands, hx']))
  have hrun : (execOp a.eval (⟨dst, .call { callee := .value (.tmp t), args := xs.toArray, argTypes := tys }, ty, pos, after, gd⟩ : Oper)).run P w = .ok (.enter f ((xs.map a.eval) ++ vs).toArray) w := by
    simp [execOp, resolve, Deferred.ofValue, e, invoke, hf.enter]
  simp only [Oper.wp, hrun, Oper.upon_enter]
  refine (hf.calls _ w G _ hs (Owns.none G w) (hargs.append hvs)).mono ?_
  rintro e w' ⟨v, G', S', rfl, hext, -, -, hT⟩
  exact k v w' G' ⟨hext.sat, hext.le, hext.os, hext.tape, hext.output, hext.size, fun b hb _ => hext.blk b hb (fun ⟨_, h⟩ => h)⟩ hT

/-! ### least and greatest -/
theorem op_min {x y : Operand} {k : IntKind} {m n : Int} {tys : Array TypeId} (hx : Opd E x = some (okI k m)) (hy : Opd E y = some (okI k n)) : OpP P L E ⟨dst, .call { callee := .builtin .min, args := #[x, y], argTypes := tys }, ty, pos, after, gd⟩ (okI k (if n < m then n else m)) :=
  OpP.same fun a w G S _ _ ho => by
    have h1 : a.eval x = .int k m := ho x (by simp [Op.operands, Call.operands]) _ hx
    have h2 : a.eval y = .int k n := ho y (by simp [Op.operands, Call.operands]) _ hy
    exact ⟨_, by simp [execOp, resolve, invoke, builtin, Builtin.min_, Builtin.min2, h1, h2], rfl⟩
theorem op_max {x y : Operand} {k : IntKind} {m n : Int} {tys : Array TypeId} (hx : Opd E x = some (okI k m)) (hy : Opd E y = some (okI k n)) : OpP P L E ⟨dst, .call { callee := .builtin .max, args := #[x, y], argTypes := tys }, ty, pos, after, gd⟩ (okI k (if m < n then n else m)) :=
  OpP.same fun a w G S _ _ ho => by
    have h1 : a.eval x = .int k m := ho x (by simp [Op.operands, Call.operands]) _ hx
    have h2 : a.eval y = .int k n := ho y (by simp [Op.operands, Call.operands]) _ hy
    exact ⟨_, by simp [execOp, resolve, invoke, builtin, Builtin.max_, Builtin.max2, h1, h2], rfl⟩
end
end Go.Vk
