/-
  The steps with resources in the form that 'run' takes. Nothing here speaks of a program; no conditions.
  Some more rules, and what tells goals apart. Nothing here speaks of a program; no conditions.
-/
import Derived.Test.YthjckklijlfghaaGae
import Derived.Lib.Builder
import Derived.Lib.Bytealg
set_option linter.unusedSimpArgs false
set_option linter.unusedVariables false
set_option linter.unusedVariables false
namespace Go.Vk
/-- The variables of these slots are written. -/
structure Mut (ds : List Nat) : Prop where
  t : True
theorem Mut.mk' (ds : List Nat) : Mut ds := ⟨trivial⟩
theorem Sub.agg {ts ts' : List Ty} (h : TsSub ts ts') : Sub (TAgg ts) (TAgg ts') := by
  rintro G v ⟨vs, rfl, hl, k⟩
  obtain ⟨k1, k2⟩ := TsSub.get h
  exact ⟨vs, rfl, by omega, fun j U u e1 e2 => by
    obtain ⟨T, e3, e4⟩ := k2 j U e1
    exact ⟨e4 _ _ (k j T u e3 e2).1, (k j T u e3 e2).2⟩⟩
theorem Sub.nilO {α : Type} {sz : Nat} {f : α → List Ty} {l : List α} (h : [] = l) : Sub (Is (.slice none 0 0)) (TAnd (Is (.slice none 0 0)) (TSl sz f l)) := fun G v k => ⟨k, Sub.nil' h G v k⟩
theorem LitT.nil : LitT [] [] := trivial
theorem LitT.is {v : Value} {vs : List Value} {ts : List Ty} (h : v.oneCell' = true) (k : LitT vs ts) : LitT (v :: vs) (Is v :: ts) := ⟨⟨rfl, h⟩, k⟩
theorem LitT.s0 {v : Value} {vs : List Value} {ts : List Ty} (h : v = str []) (k : LitT vs ts) : LitT (v :: vs) (Is (str []) :: ts) := ⟨⟨h, by rw [h]; rfl⟩, k⟩
theorem isLitT {zs : List Value} {ts : List Ty} (h : LitT zs ts) : LitT zs ts := h
theorem isDist {is : List Nat} (h : distinct is = true) : distinct is = true := h
theorem isTo {L L' : List Res} (h : To L L') : To L L' := h
section
variable {F : FCtx} {E : Env} {L L' : List Res} {Q : Exit → Act → World → Prop} {ops : Array Oper} {rest : List Oper} {d : Nat} {ty : TypeId} {pos : String} {after : Array Edge}
theorem op_appendS {P : Program} {dst : Option Tmp} {gd : Option (Nat × Bool)} {x y : Operand} {α : Type} {sz by_ : Nat} {f : α → List Ty} {l m : List α} {t e : TypeId} {z v : Value} {U : Ty} (i : Nat) (hx : Opd E x = some (TAnd (Is v) (TSl sz f l))) (hy : Opd E y = some U) (hs : Sub U (TSl sz f m)) (hL : L[i]? = some (ownSl v sz e))
    (hu : P.underlying t = some (.slice e)) (hinf : (P.info? e).map (fun i => (i.zero, i.size, i.bytes)) = some (some z, sz, by_)) (hz : z.cells.size = sz) (hb : (l.length + m.length) * by_ ≤ 140737488355328) (hm : l.length + m.length ≤ maxLen) :
    OpC P L E ⟨dst, .call { callee := .builtin .append, args := #[x, y], argTypes := #[t, t] }, ty, pos, after, gd⟩ (fun v' => TAnd (Is v') (TSl sz f (l ++ m))) (fun v' => L.set i (ownSl v' sz e)) := by
  intro a w G S hsat ho ht K Q k
  have hxx := ht x (by simp [Op.operands, Call.operands]) _ hx
  have hyy := hs _ _ (ht y (by simp [Op.operands, Call.operands]) _ hy)
  have hxv : a.eval x = v := hxx.1
  obtain ⟨v', w', G', S', hr, h1, h2, h3, h4⟩ := run_append_res (P := P) (tyy := ty) hu hinf hz hsat ho hL (by rw [← hxv]; exact hxx.2) hyy hb hm
  have : (execOp a.eval (⟨dst, .call { callee := .builtin .append, args := #[x, y], argTypes := #[t, t] }, ty, pos, after, gd⟩ : Oper)).run P w = .ok (.value v') w' := by
    simp only [execOp, resolve]
    simp [invoke, builtin, hxv, hr]
  simp only [Oper.wp, this, Oper.upon_value]
  exact k v' w' G' S' h1 h2 h3 ⟨rfl, h4⟩
theorem PickL.own {is : List Nat} {B : List Res} {g : Nat} {e : TypeId} {ts ts' : List Ty} (i : Nat) (h : L[i]? = some (ownP g e ts)) (hs : TsSub ts ts') (k : PickL L is B) : PickL L (i :: is) (ownP g e ts' :: B) := .cons i h (RSub.own hs) k
theorem PickL.any {is : List Nat} {B : List Res} {R : Res} (i : Nat) (h : L[i]? = some R) (k : PickL L is B) : PickL L (i :: is) (R :: B) := .cons i h (RSub.refl _) k
theorem PickL.sl {is : List Nat} {B : List Res} {v : Value} {sz : Nat} {e : TypeId} (i : Nat) (h : L[i]? = some (ownSl v sz e)) (k : PickL L is B) : PickL L (i :: is) (ownSl v sz e :: B) := .cons i h (RSub.refl _) k
end
section
variable {P : Program} {L L' : List Res} {E : Env} {dst : Option Tmp} {ty : TypeId} {pos : String} {after : Array Edge} {gd : Option (Nat × Bool)}
theorem oc_storeO {x y : Operand} {g o : Nat} {e : TypeId} {ts ts' : List Ty} {T : Ty} {t : TypeId} (i : Nat) (hx : Opd E x = some (Is (pAt g o))) (hL : L[i]? = some (ownP g e ts)) (hy : Opd E y = some T) (h1c : One T) (hsz : (P.info? t).map (·.size) = some 1) (hlt : Nat.blt o ts.length = true) (ht : ts.set o T = ts') (hL' : L.set i (ownP g e ts') = L') :
    OpC P L E ⟨dst, .store t x y, ty, pos, after, gd⟩ (fun v => Is v) (fun _ => L') := op_storeO i hx hy h1c hL hsz hlt ht hL'
theorem oc_storeAO {x y : Operand} {g o n : Nat} {e : TypeId} {ts ts' us : List Ty} {t : TypeId} (i : Nat) (hx : Opd E x = some (Is (pAt g o))) (hL : L[i]? = some (ownP g e ts)) (hy : Opd E y = some (TAgg us)) (hsz : (P.info? t).map (·.size) = some n) (hn : us.length = n) (hlt : Nat.ble (o + n) ts.length = true) (ht : ts.take o ++ us ++ ts.drop (o + n) = ts') (hL' : L.set i (ownP g e ts') = L') :
    OpC P L E ⟨dst, .store t x y, ty, pos, after, gd⟩ (fun v => Is v) (fun _ => L') := op_storeAO i hx hy hL hsz hn hlt ht hL'
theorem oc_alloc {e : TypeId} {z : Value} {zs : List Value} {ts : List Ty} {L' : Nat → List Res} (hz : (P.info? e).map (·.zero) = some (some z)) (hc : z.cells.toList = zs) (ht : LitT zs ts) (hL' : ∀ g, L ++ [ownP g e ts] = L' g) :
    OpC P L E ⟨dst, .alloc e, ty, pos, after, gd⟩ (fun v => Is (pAt (blk v) 0)) (fun v => L' (blk v)) := by
  have := op_alloc (P := P) (L := L) (E := E) (dst := dst) (ty := ty) (pos := pos) (after := after) (gd := gd) hz hc ht
  simpa only [hL'] using this
theorem oc_boxM {x : Operand} {T : Ty} {e : TypeId} {ts : List Ty} {L' : Nat → List Res} {ds : List Nat} {d : Nat} (hm : Mut ds) (hmd : ds.any (Nat.beq d) = true) (hx : Opd E x = some T) (hc : CellsOf T ts) (hL' : ∀ g, L ++ [ownP g e ts] = L' g) :
    OpC P L E ⟨some d, .box e x, ty, pos, after, gd⟩ (fun v => Is (pAt (blk v) 0)) (fun v => L' (blk v)) := by
  have := op_box (P := P) (L := L) (E := E) (e := e) (dst := some d) (ty := ty) (pos := pos) (after := after) (gd := gd) hx hc
  simpa only [hL'] using this
theorem oc_callR {f : FuncId} {A : List Ty} {R : Res} {Li : List Res} {T : Ty} {Lo : List Res} {xs : List Operand} {tys : Array TypeId} {is : List Nat} (hf : CallsC P f A (R :: Li) (fun _ => T) (fun _ => Lo)) (zx : OpdsS E xs A) (zp : PickL L is (R :: Li)) (zd : distinct is = true) (zl : Nat.ble is.length Lo.length = true) (zL : updL L is Lo = L') :
    OpC P L E ⟨dst, .call { callee := .value (.func f), args := xs.toArray, argTypes := tys }, ty, pos, after, gd⟩ (fun _ => T) (fun _ => L') := by
  have := op_callR (P := P) (L := L) (E := E) (dst := dst) (ty := ty) (pos := pos) (after := after) (gd := gd) (tys := tys) hf zx zp zd (fun _ => Nat.le_of_ble_eq_true zl)
  simpa only [zL] using this
/-- A call that hands back a pointer to a new block. -/
theorem oc_callN {f : FuncId} {A : List Ty} {e : TypeId} {ts : List Ty} {xs : List Operand} {tys : Array TypeId} {L' : Nat → List Res} (hf : CallsC P f A [] (fun v => Is (pAt (blk v) 0)) (fun v => [ownP (blk v) e ts])) (zx : OpdsS E xs A) (zL : ∀ g, L ++ [ownP g e ts] = L' g) :
    OpC P L E ⟨dst, .call { callee := .value (.func f), args := xs.toArray, argTypes := tys }, ty, pos, after, gd⟩ (fun v => Is (pAt (blk v) 0)) (fun v => L' (blk v)) := by
  have := op_callR (P := P) (L := L) (E := E) (dst := dst) (ty := ty) (pos := pos) (after := after) (gd := gd) (tys := tys) (is := []) hf zx PickL.nil rfl (fun _ => Nat.zero_le _)
  simpa only [updL, zL] using this
/-- append onto a slice of one's own. -/
theorem oc_appendO {x y : Operand} {α : Type} {sz by_ : Nat} {f : α → List Ty} {l m : List α} {t e : TypeId} {z v : Value} {U : Ty} {L' : Value → List Res} (i : Nat) (hx : Opd E x = some (TAnd (Is v) (TSl sz f l))) (hL : L[i]? = some (ownSl v sz e)) (hy : Opd E y = some U) (hs : Sub U (TSl sz f m))
    (hu : P.underlying t = some (.slice e)) (hinf : (P.info? e).map (fun i => (i.zero, i.size, i.bytes)) = some (some z, sz, by_)) (hz : z.cells.size = sz) (hb : (l.length + m.length) * by_ ≤ 140737488355328 ∧ l.length + m.length ≤ maxLen) (hL' : ∀ v', L.set i (ownSl v' sz e) = L' v') :
    OpC P L E ⟨dst, .call { callee := .builtin .append, args := #[x, y], argTypes := #[t, t] }, ty, pos, after, gd⟩ (fun v' => TAnd (Is v') (TSl sz f (l ++ m))) L' := by
  have := op_appendS (P := P) (L := L) (E := E) (dst := dst) (ty := ty) (pos := pos) (after := after) (gd := gd) i hx hy hs hL hu hinf hz hb.1 hb.2
  simpa only [hL'] using this
/-- append onto nil. -/
theorem oc_appendNil {x y : Operand} {α : Type} {sz by_ : Nat} {f : α → List Ty} {m : List α} {t e : TypeId} {z : Value} {U : Ty} {L' : Value → List Res} (hx : Opd E x = some (Is (.slice none 0 0))) (hy : Opd E y = some U) (hs : Sub U (TSl sz f m))
    (hu : P.underlying t = some (.slice e)) (hinf : (P.info? e).map (fun i => (i.zero, i.size, i.bytes)) = some (some z, sz, by_)) (hz : z.cells.size = sz) (hb : m.length * by_ ≤ 140737488355328 ∧ m.length ≤ maxLen) (hL' : ∀ v', L ++ [ownSl v' sz e] = L' v') :
    OpC P L E ⟨dst, .call { callee := .builtin .append, args := #[x, y], argTypes := #[t, t] }, ty, pos, after, gd⟩ (fun v' => TAnd (Is v') (TSl sz f m)) L' := by
  have hLe : L' = fun v' => L ++ [ownSl v' sz e] := by funext v'; exact (hL' v').symm
  subst hLe
  intro a w G S hsat ho ht K Q k
  -- nil owns nothing: one place more
  have ho' : Owns S (L ++ [ownSl (.slice none 0 0) sz e]) G w := by
    refine ⟨ho.bound, ho.disj, fun i b hb => by have := ho.inL i b hb; simp; omega, fun i r hr => ?_⟩
    by_cases hi : i < L.length
    · rw [List.getElem?_append_left hi] at hr; exact ho.res i r hr
    · have hlt := (List.getElem?_eq_some_iff.1 hr).1
      have hil : i = L.length := by simp at hlt; omega
      subst hil
      simp at hr
      subst hr
      exact .inl ⟨rfl, fun b hb => by have := ho.inL _ b hb; omega⟩
  have hxx : a.eval x = .slice none 0 0 := ht x (by simp [Op.operands, Call.operands]) _ hx
  have hyy := hs _ _ (ht y (by simp [Op.operands, Call.operands]) _ hy)
  obtain ⟨v', w', G', S', hr, h1, h2, h3, h4⟩ := run_append_res (P := P) (tyy := ty) (l := ([] : List α)) (f := f) (i := L.length) hu hinf hz hsat ho' (by simp) (TSlX.sl (nil_sl sz f G)) hyy (by simpa using hb.1) (by simpa using hb.2)
  have : (execOp a.eval (⟨dst, .call { callee := .builtin .append, args := #[x, y], argTypes := #[t, t] }, ty, pos, after, gd⟩ : Oper)).run P w = .ok (.value v') w' := by
    simp only [execOp, resolve]
    simp [invoke, builtin, hxx, hr]
  simp only [Oper.wp, this, Oper.upon_value]
  refine k v' w' G' S' h1 ?_ h3 ⟨rfl, by simpa using h4⟩
  have e : (L ++ [ownSl (.slice none 0 0) sz e]).set L.length (ownSl v' sz e) = L ++ [ownSl v' sz e] := by
    rw [List.set_append_right _ _ (Nat.le_refl _)]; simp
  show Owns S' (L ++ [ownSl v' sz _]) G' w'
  rw [← e]; exact h2
end
def endB : Exit → Bool
  | .ret => true
  | .normal => true
  | _ => false
theorem endB.or {e : Exit} (h : endB e = true) : e = .ret ∨ e = .normal := by cases e <;> simp [endB] at h <;> simp
section
variable {P : Program} {L : List Res} {E : Env} {fn : Func} {w0 : World} {G0 : Imm} {S0 : Nat → Nat → Prop} {N : Nat}
theorem HX.fin1 {x : Exit} (he : endB x = true) {U T : Ty} {Lo : List Res} {is : List (List Nat)} (hr : ResR P L E fn.results.toList [U]) (hp : PickX L is Lo) (hd : distinct is.flatten = true) (hT : Sub U T) : HX (FC P N w0 G0 S0) E L (bodyPost P fn (RetR w0 G0 S0 (fun _ => T) (fun _ => Lo))) x := HX.fin is (endB.or he) hr hd hp hT
theorem HX.finN {x : Exit} (he : endB x = true) {Us : List Ty} {T : Ty} {Lo : List Res} {is : List (List Nat)} (hr : ResR P L E fn.results.toList Us) (hn : Nat.beq Us.length 1 = false) (hp : PickX L is Lo) (hd : distinct is.flatten = true) (hT : Sub (TTup Us) T) : HX (FC P N w0 G0 S0) E L (bodyPost P fn (RetR w0 G0 S0 (fun _ => T) (fun _ => Lo))) x :=
  HX.fin is (endB.or he) hr hd hp (by
    match Us, hn with
    | [], _ => exact hT
    | [_], h => simp at h
    | _ :: _ :: _, _ => exact hT)

theorem HX.finS {x : Exit} (he : endB x = true) {v : Value} {sz : Nat} {e : TypeId} {T U : Ty} {is : List (List Nat)} (hr : ResR P L E fn.results.toList [TAnd (Is v) U]) (hp : PickX L is [ownSl v sz e]) (hd : distinct is.flatten = true) (hT : Sub U T) : HX (FC P N w0 G0 S0) E L (bodyPost P fn (RetR w0 G0 S0 (fun v => TAnd (Is v) T) (fun v => [ownSl v sz e]))) x :=
  HX.finG is (endB.or he) hr (fun G u h => by obtain ⟨h1, h2⟩ := h; cases h1; exact ⟨⟨rfl, hT _ _ h2⟩, hp⟩) hd
/-- A pointer to a new block is handed back. -/
theorem HX.finB {x : Exit} (he : endB x = true) {g : Nat} {e : TypeId} {ts : List Ty} {is : List (List Nat)} (hr : ResR P L E fn.results.toList [Is (pAt g 0)]) (hp : PickX L is [ownP g e ts]) (hd : distinct is.flatten = true) : HX (FC P N w0 G0 S0) E L (bodyPost P fn (RetR w0 G0 S0 (fun v => Is (pAt (blk v) 0)) (fun v => [ownP (blk v) e ts]))) x := HX.finP is (endB.or he) hr hd hp (Sub.refl _)
end
end Go.Vk
set_option linter.unusedVariables false
namespace Go.Vk
section
variable {P : Program} {L : List Res} {E : Env} {dst : Option Tmp} {op : Op} {ty : TypeId} {pos : String} {after : Array Edge} {gd : Option (Nat × Bool)} {K : Ty → Prop} {c : Prop}
theorem isEx {o : Oper} (h : ∃ T, (c → OpP P L E o T) ∧ K T) : ∃ T, (c → OpP P L E o T) ∧ K T := h
theorem isGd {g : Nat × Bool} (h : ∃ T, (c → OpP P L E ⟨dst, op, ty, pos, after, some g⟩ T) ∧ K T) : ∃ T, (c → OpP P L E ⟨dst, op, ty, pos, after, some g⟩ T) ∧ K T := h
theorem op_len_and {x : Operand} {α : Type} {sz : Nat} {f : α → List Ty} {l : List α} {v : Value} {t e : TypeId} (hx : Opd E x = some (TAnd (Is v) (TSl sz f l))) (hu : P.underlying t = some (.slice e)) :
    OpP P L E ⟨dst, .call { callee := .builtin .len, args := #[x], argTypes := #[t] }, ty, pos, after, gd⟩ (okI .i64 (l.length : Int)) :=
  OpP.same fun a w G S _ _ ho => by
    obtain ⟨_, ad, cap, h1, _⟩ := ho x (by simp [Op.operands, Call.operands]) _ hx
    refine ⟨.int .i64 (l.length : Int), ?_, rfl⟩
    simp [execOp, resolve, invoke, builtin, Builtin.len_, h1, run_underlying hu, goInt]
theorem op_smin {x y : Operand} {l m : List UInt8} {tys : Array TypeId} (hx : Opd E x = some (Is (str l))) (hy : Opd E y = some (Is (str m))) : OpP P L E ⟨dst, .call { callee := .builtin .min, args := #[x, y], argTypes := tys }, ty, pos, after, gd⟩ (Is (str (if sless l m || l == m then l else m))) :=
  OpP.same fun a w G S _ _ ho => by
    have h1 : a.eval x = str l := ho x (by simp [Op.operands, Call.operands]) _ hx
    have h2 : a.eval y = str m := ho y (by simp [Op.operands, Call.operands]) _ hy
    refine ⟨_, ?_, rfl⟩
    simp only [execOp, resolve]
    by_cases h : (sless l m || l == m) = true
    · simp [invoke, builtin, Builtin.min_, Builtin.min2, h1, h2, str, Op.stringOp, str_toList, asBool, h]
    · simp only [Bool.not_eq_true] at h
      simp [invoke, builtin, Builtin.min_, Builtin.min2, h1, h2, str, Op.stringOp, str_toList, asBool, h]
theorem op_smax {x y : Operand} {l m : List UInt8} {tys : Array TypeId} (hx : Opd E x = some (Is (str l))) (hy : Opd E y = some (Is (str m))) : OpP P L E ⟨dst, .call { callee := .builtin .max, args := #[x, y], argTypes := tys }, ty, pos, after, gd⟩ (Is (str (if sless l m then m else l))) :=
  OpP.same fun a w G S _ _ ho => by
    have h1 : a.eval x = str l := ho x (by simp [Op.operands, Call.operands]) _ hx
    have h2 : a.eval y = str m := ho y (by simp [Op.operands, Call.operands]) _ hy
    refine ⟨_, ?_, rfl⟩
    simp only [execOp, resolve]
    by_cases h : sless l m = true
    · simp [invoke, builtin, Builtin.max_, Builtin.max2, h1, h2, str, Op.stringOp, str_toList, asBool, h]
    · simp only [Bool.not_eq_true] at h
      simp [invoke, builtin, Builtin.max_, Builtin.max2, h1, h2, str, Op.stringOp, str_toList, asBool, h]
/-- A conversion that changes nothing of the value. -/
theorem op_convn {x : Operand} {l : List UInt8} {st dt : TypeId} (hx : Opd E x = some (Is (str l))) (hs : P.underlying st = some .string) (hd : P.underlying dt = some .string) : OpP P L E ⟨dst, .convert st dt x, ty, pos, after, gd⟩ (Is (str l)) :=
  OpP.same fun a w G S _ _ ho => by
    have h1 : a.eval x = str l := ho x (by simp [Op.operands]) _ hx
    exact ⟨str l, by simp only [execOp, h1]; simp [convert, run_underlying hs, run_underlying hd, str], rfl⟩

/-! ### rows that are written out: each element's types -/
def PartsT (E : Env) (sz : Nat) : List Operand → List (List Ty) → Prop
  | [], [] => True
  | x :: xs, ts :: tss => ((∃ T, Opd E x = some T ∧ CellsOf T ts) ∧ ts.length = sz) ∧ PartsT E sz xs tss
  | _, _ => False
theorem PartsT.nil {sz : Nat} : PartsT E sz [] [] := trivial
theorem PartsT.cons {sz : Nat} {x : Operand} {xs : List Operand} {T : Ty} {ts : List Ty} {tss : List (List Ty)} (hx : Opd E x = some T) (hc : CellsOf T ts) (hl : ts.length = sz) (k : PartsT E sz xs tss) : PartsT E sz (x :: xs) (ts :: tss) := ⟨⟨⟨T, hx, hc⟩, hl⟩, k⟩
theorem PartsT.lit {sz : Nat} : ∀ {xs : List Operand} {tss : List (List Ty)}, PartsT E sz xs tss → LitOk E (fun ts : List Ty => ts) xs tss ∧ xs.length = tss.length ∧ ∀ ts ∈ tss, ts.length = sz
  | [], [], _ => ⟨trivial, rfl, by simp⟩
  | x :: xs, ts :: tss, ⟨⟨h, hl⟩, k⟩ => by
    obtain ⟨h1, h2, h3⟩ := PartsT.lit k
    refine ⟨⟨h, h1⟩, by simp [h2], fun u hu => ?_⟩
    rcases List.mem_cons.1 hu with e | e
    · rw [e]; exact hl
    · exact h3 u e
  | [], _ :: _, h => h.elim
  | _ :: _, [], h => h.elim
theorem op_litT {n sz by_ : Nat} {t e : TypeId} {z : Value} {parts : Array (Nat × Operand)} {tss : List (List Ty)} (hp : partsOk parts n = true) (hx : PartsT E sz (partsOf parts) tss) (hu : P.underlying t = some (.slice e)) (hinf : (P.info? e).map (fun i => (i.zero, i.size, i.bytes)) = some (some z, sz, by_)) (hn : Nat.beq tss.length n = true) (hb : n * sz ≤ 16777216 ∧ n ≤ 16777216) (h0 : z.cells.size = z.cells.size) :
    OpP P L E ⟨dst, .buildSlice t n parts, ty, pos, after, gd⟩ (TSlX sz (fun ts : List Ty => ts) tss) := by
  obtain ⟨h1, h2, h3⟩ := hx.lit
  exact op_lit (fun ts : List Ty => ts) tss hp h1 (Nat.eq_of_beq_eq_true hn).symm h3 hu hinf hb.1 (by simp only [maxLen]; omega)
/-- Rows of types, and rows of what they are the types of. -/
theorem SlP.map {α : Type} {x : Bool} {sz : Nat} {f : α → List Ty} {l : List α} {tss : List (List Ty)} (h : tss = l.map f) {G : Imm} {v : Value} (k : SlP x sz (fun ts : List Ty => ts) tss G v) : SlP x sz f l G v := by
  subst h
  obtain ⟨a, cap, h1, h2, h3, h4, h5, h6⟩ := k
  simp only [List.length_map] at h1 h2 h4
  refine ⟨a, cap, h1, h2, h3, h4, h5, fun ad e => ?_⟩
  obtain ⟨k1, k2⟩ := h6 ad e
  refine ⟨fun hp => k1 (by simpa using hp), fun i y hy => ?_⟩
  exact k2 i (f y) (by simp [hy])
theorem Sub.slT {α : Type} {sz : Nat} {f : α → List Ty} {l : List α} {tss : List (List Ty)} (h : tss = l.map f) : Sub (TSl sz (fun ts : List Ty => ts) tss) (TSl sz f l) := fun _ _ k => SlP.map h k
theorem Sub.slxT {α : Type} {sz : Nat} {f : α → List Ty} {l : List α} {tss : List (List Ty)} (h : tss = l.map f) : Sub (TSlX sz (fun ts : List Ty => ts) tss) (TSl sz f l) := fun _ _ k => SlP.map h (TSlX.sl k)

/-! ### what is one's own is read -/
theorem exOwn {o : Oper} {v : Value} {T0 : Ty} {t : Nat} (i : Nat) (hi : tmpAt o i = some t) (h : E.get t = some (TAnd (Is v) T0)) (k : ∃ T, (c → OpP P L ((t, T0) :: E) o T) ∧ K T) : ∃ T, (c → OpP P L E o T) ∧ K T :=
  let ⟨T, h1, h2⟩ := k; ⟨T, fun hc => OpP.unl (U0 := TAnd (Is v) T0) (fun _ _ k => k.2) h (h1 hc), h2⟩
/-- What a value of type T is does not hang on memory. -/
def Gnd (T : Ty) : Prop := ∀ G G' v, T.p G v → T.p G' v
theorem Gnd.is (v : Value) : Gnd (Is v) := fun _ _ _ h => h
def GndL : List Ty → Prop
  | [] => True
  | T :: ts => Gnd T ∧ GndL ts
theorem GndL.nil : GndL [] := trivial
theorem GndL.cons {T : Ty} {ts : List Ty} (h : Gnd T) (k : GndL ts) : GndL (T :: ts) := ⟨h, k⟩
theorem GndL.at : ∀ {ts : List Ty}, GndL ts → ∀ (j : Nat) (T : Ty), ts[j]? = some T → Gnd T
  | [], _, j, T, h => by simp at h
  | U :: ts, ⟨h, k⟩, j, T, e => by
    cases j with
    | zero => simp at e; subst e; exact h
    | succ j => exact GndL.at k j T (by simpa using e)
theorem Gnd.tup {ts : List Ty} (h : GndL ts) : Gnd (TTup ts) := fun _ _ _ ⟨vs, e, hl, k⟩ => ⟨vs, e, hl, fun j T u h1 h2 => h.at j T h1 _ _ _ (k j T u h1 h2)⟩
theorem Gnd.agg {ts : List Ty} (h : GndL ts) : Gnd (TAgg ts) := fun _ _ _ ⟨vs, e, hl, k⟩ => ⟨vs, e, hl, fun j T u h1 h2 => ⟨h.at j T h1 _ _ _ (k j T u h1 h2).1, (k j T u h1 h2).2⟩⟩
/-- A call that only reads what stands behind a pointer of one's own. -/
theorem exCallRd {f : FuncId} {A : List Ty} {T : Ty} {x : Operand} {xs : List Operand} {tys : Array TypeId} {g : Nat} {e : TypeId} {ts ts' : List Ty} (i : Nat) (hx : Opd E x = some (Is (pAt g 0))) (hL : L[i]? = some (ownP g e ts)) (hf : c → CFn P f (TPc ts' :: A) T) (zxs : OpdsS E xs A) (zts : TsSub ts ts') (zT : Gnd T) (k : K T) :
    ∃ T, (c → OpP P L E ⟨dst, .call { callee := .value (.func f), args := (x :: xs).toArray, argTypes := tys }, ty, pos, after, gd⟩ T) ∧ K T := by
  refine ⟨T, fun hc => ?_, k⟩
  have hf := hf hc
  intro a w G S hs ho ht K Q k
  obtain ⟨hS, ⟨cs, h2, h3, h4⟩, h5⟩ := ownP.at ho hL
  -- for the call's time the block counts as one that stays
  have hsG : Sat (fun b o => if b = g then cs[o]? else G b o) w := by
    intro b o v hb
    by_cases hbg : b = g
    · subst hbg
      simp only [if_true] at hb
      simp only [World.cell?, h2]
      simpa using hb
    · simp only [hbg, if_false] at hb; exact hs b o v hb
  have hle : Imm.le G (fun b o => if b = g then cs[o]? else G b o) := by
    intro b o v hb
    by_cases hbg : b = g
    · subst hbg; rw [h5] at hb; cases hb
    · simp only [hbg, if_false]; exact hb
  have hxx : (TPc ts').p (fun b o => if b = g then cs[o]? else G b o) (a.eval x) := by
    have h1 : a.eval x = pAt g 0 := ht x (by simp [Op.operands, Call.operands]) _ hx
    refine ⟨g, 0, h1, fun j U hj => ?_⟩
    obtain ⟨_, k2⟩ := zts.get
    obtain ⟨T', e1, e2⟩ := k2 j U hj
    obtain ⟨u, a1, a2, a3⟩ := h4 j T' e1
    exact ⟨u, by simp [a1], U.mono hle (e2 _ _ a2), a3⟩
  have hargs : ArgsT (fun b o => if b = g then cs[o]? else G b o) (TPc ts' :: A) ((x :: xs).map a.eval) :=
    ⟨hxx, (OpdsS.args xs A zxs (fun y hy => ht y (by simp [Op.operands, Call.operands, hy]))).mono hle⟩
  simp only [Oper.wp, run_call_func w hf.enter, Oper.upon_enter]
  refine (hf.calls _ w _ _ hsG (Owns.none _ w) hargs).mono ?_
  rintro e w' ⟨v, G', S', rfl, hext, -, -, zT'⟩
  have hgl : g < w.heap.size := (Array.getElem?_eq_some_iff.1 h2).1
  refine k v w' (fun b o => if b = g then Option.none else G' b o) ⟨?_, ?_, hext.os, hext.tape, hext.output, hext.size, ?_⟩ (zT _ _ _ zT')
  · intro b o u hb
    by_cases hbg : b = g
    · subst hbg; simp at hb
    · simp only [hbg, if_false] at hb; exact hext.sat b o u hb
  · intro b o u hb
    have hbg : b ≠ g := fun e => by subst e; rw [h5] at hb; cases hb
    simp only [hbg, if_false]
    exact hext.le b o u (hle b o u hb)
  · intro b hb _
    obtain ⟨e1, e2⟩ := hext.blk b hb (fun ⟨_, h⟩ => h)
    refine ⟨e1, fun o => ?_⟩
    by_cases hbg : b = g
    · subst hbg; simp [h5]
    · simp only [hbg, if_false]; rw [e2 o]; simp [hbg]

/-! ### functions without a body, unsafe pointers, pointers that are compared -/
/-- The contract of a function that the model itself answers. -/
def XFn (P : Program) (f : FuncId) (A : List Ty) (T : Ty) : Prop := ∀ (vs : List Value) (w : World) (G : Imm), Sat G w → ArgsT G A vs → ∃ v w' G', (callFunc f vs.toArray).run P w = .ok (.value v) w' ∧ Ext noZ G w G' w' ∧ T.p G' v
theorem exCallX {f : FuncId} {A : List Ty} {T : Ty} {xs : List Operand} {tys : Array TypeId} (hx : Opds E xs A) (hf : c → XFn P f A T) (k : K T) :
    ∃ T, (c → OpP P L E ⟨dst, .call { callee := .value (.func f), args := xs.toArray, argTypes := tys }, ty, pos, after, gd⟩ T) ∧ K T := by
  refine ⟨T, fun hc => OpP.laid fun a w G S hs ho ht => ?_, k⟩
  obtain ⟨v, w', G', h1, h2, h3⟩ := hf hc _ w G hs (Opds.args (G := G) (a := a) xs A hx (fun x hx' => ht x (by simp [Op.operands, Call.operands, hx'])))
  refine ⟨v, w', G', ?_, h2, h3⟩
  simp [execOp, resolve, Deferred.ofValue, Act.eval, invoke]
  exact h1
theorem XFn.same {f : FuncId} {fn : Func} {e : Array Value → Sem Value} {A : List Ty} {T : Ty} (hf : P.funcs[f]? = some fn) (hname : (fn.name == "runtime.NumGoroutine") = false) (hb : fn.body.isNone = true) (hn : Extern.findNext fn = none) (he : Extern.find fn = some e)
    (h : ∀ (vs : List Value) (w : World) (G : Imm), Sat G w → ArgsT G A vs → ∃ v, (e vs.toArray).run P w = .ok v w ∧ T.p G v) : XFn P f A T := fun vs w G hs ha => by
  obtain ⟨v, h1, h2⟩ := h vs w G hs ha
  exact ⟨v, w, G, by rw [run_callFunc_extern hf hname hb hn he, h1]; rfl, Ext.refl hs, h2⟩
theorem own_shape {i g : Nat} {e : TypeId} {ts : List Ty} {S : Nat → Nat → Prop} {G : Imm} {w : World} (h : Owns S L G w) (hL : L[i]? = some (ownP g e ts)) : w.shape? g = some (e, ts.length) := by
  obtain ⟨_, ⟨cs, h2, h3, _⟩, _⟩ := ownP.at h hL
  simp [World.shape?, h2, h3]
theorem op_toUnsafe {x : Operand} {g o : Nat} {st dt t e : TypeId} {ts : List Ty} {n : Nat} (i : Nat) (hx : Opd E x = some (Is (pAt g o))) (hL : L[i]? = some (ownP g e ts)) (hs : P.underlying st = some (.pointer t)) (hd : P.underlying dt = some .unsafePointer) (hsz : (P.info? t).map (·.size) = some (n + 1)) (ho : Nat.blt o ts.length = true) : OpP P L E ⟨dst, .convert st dt x, ty, pos, after, gd⟩ (Is (pAt g o)) :=
  OpP.same fun a w G S _ ho' h => by
    have h1 : a.eval x = pAt g o := h x (by simp [Op.operands]) _ hx
    obtain ⟨j, hj, hjs⟩ := Option.map_eq_some_iff.1 hsz
    refine ⟨pAt g o, ?_, rfl⟩
    simp only [execOp, h1]
    simp [Lib.run_to_unsafe w ⟨g, o, Option.none⟩ hs hd hj (by omega) (own_shape ho' hL) (Nat.le_of_ble_eq_true ho)]
theorem op_fromUnsafe {x : Operand} {g o : Nat} {st dt t e : TypeId} {ts : List Ty} {n : Nat} (i : Nat) (hx : Opd E x = some (Is (pAt g o))) (hL : L[i]? = some (ownP g e ts)) (hs : P.underlying st = some .unsafePointer) (hd : P.underlying dt = some (.pointer t)) (hsz : (P.info? t).map (·.size) = some (n + 1)) (hl : liesAt P P.depth e (ts.length / P.cellsOf e) o t 1 = true) : OpP P L E ⟨dst, .convert st dt x, ty, pos, after, gd⟩ (Is (pAt g o)) :=
  OpP.same fun a w G S _ ho' h => by
    have h1 : a.eval x = pAt g o := h x (by simp [Op.operands]) _ hx
    obtain ⟨j, hj, hjs⟩ := Option.map_eq_some_iff.1 hsz
    refine ⟨pAt g o, ?_, rfl⟩
    simp only [execOp, h1]
    simp [Lib.run_from_unsafe w ⟨g, o, Option.none⟩ hs hd hj (own_shape ho' hL) hl]
theorem op_eqPnil {x : Operand} {g o : Nat} {xt yt t : TypeId} (hx : Opd E x = some (Is (pAt g o))) (hu : P.underlying xt = some (.pointer t)) : OpP P L E ⟨dst, .binOp .eql xt x (.const (.pointer none)) yt, ty, pos, after, gd⟩ (Is (.bool false)) :=
  OpP.same fun a w G S _ _ ho => by
    have h1 : a.eval x = pAt g o := ho x (by simp [Op.operands]) _ hx
    refine ⟨.bool false, ?_, rfl⟩
    have hr : (Op.equal xt (pAt g o) (.pointer none)).run P w = .ok false w := by
      have h : ∀ d, (Op.equalIn (d + 1) xt (pAt g o) (.pointer none)).run P w = .ok false w := fun d => by simp [Op.equalIn, run_underlying hu]
      exact h 9999
    have h0 : a.eval (.const (.pointer none)) = .pointer none := rfl
    simp only [execOp, h1, h0]
    simp [eqGuard, binOp, hr]
theorem op_nePnil {x : Operand} {g o : Nat} {xt yt t : TypeId} (hx : Opd E x = some (Is (pAt g o))) (hu : P.underlying xt = some (.pointer t)) : OpP P L E ⟨dst, .binOp .neq xt x (.const (.pointer none)) yt, ty, pos, after, gd⟩ (Is (.bool true)) :=
  OpP.same fun a w G S _ _ ho => by
    have h1 : a.eval x = pAt g o := ho x (by simp [Op.operands]) _ hx
    refine ⟨.bool true, ?_, rfl⟩
    have hr : (Op.equal xt (pAt g o) (.pointer none)).run P w = .ok false w := by
      have h : ∀ d, (Op.equalIn (d + 1) xt (pAt g o) (.pointer none)).run P w = .ok false w := fun d => by simp [Op.equalIn, run_underlying hu]
      exact h 9999
    have h0 : a.eval (.const (.pointer none)) = .pointer none := rfl
    simp only [execOp, h1, h0]
    simp [eqGuard, binOp, hr]
theorem op_eqPnn {x : Operand} {xt yt t : TypeId} (hx : Opd E x = some (Is (.pointer none))) (hu : P.underlying xt = some (.pointer t)) : OpP P L E ⟨dst, .binOp .eql xt x (.const (.pointer none)) yt, ty, pos, after, gd⟩ (Is (.bool true)) :=
  OpP.same fun a w G S _ _ ho => by
    have h1 : a.eval x = .pointer none := ho x (by simp [Op.operands]) _ hx
    refine ⟨.bool true, ?_, rfl⟩
    have hr : (Op.equal xt (.pointer none) (.pointer none)).run P w = .ok true w := by
      have h : ∀ d, (Op.equalIn (d + 1) xt (.pointer none) (.pointer none)).run P w = .ok true w := fun d => by simp [Op.equalIn, run_underlying hu]
      exact h 9999
    have h0 : a.eval (.const (.pointer none)) = .pointer none := rfl
    simp only [execOp, h1, h0]
    simp [eqGuard, binOp, hr]
theorem op_nePnn {x : Operand} {xt yt t : TypeId} (hx : Opd E x = some (Is (.pointer none))) (hu : P.underlying xt = some (.pointer t)) : OpP P L E ⟨dst, .binOp .neq xt x (.const (.pointer none)) yt, ty, pos, after, gd⟩ (Is (.bool false)) :=
  OpP.same fun a w G S _ _ ho => by
    have h1 : a.eval x = .pointer none := ho x (by simp [Op.operands]) _ hx
    refine ⟨.bool false, ?_, rfl⟩
    have hr : (Op.equal xt (.pointer none) (.pointer none)).run P w = .ok true w := by
      have h : ∀ d, (Op.equalIn (d + 1) xt (.pointer none) (.pointer none)).run P w = .ok true w := fun d => by simp [Op.equalIn, run_underlying hu]
      exact h 9999
    have h0 : a.eval (.const (.pointer none)) = .pointer none := rfl
    simp only [execOp, h1, h0]
    simp [eqGuard, binOp, hr]
theorem run_eqPP {g o o' : Nat} {xt t : TypeId} {n : Nat} (w : World) (hu : P.underlying xt = some (.pointer t)) (hsz : (P.info? t).map (·.size) = some (n + 1)) : (Op.equal xt (pAt g o) (pAt g o')).run P w = .ok (decide (o = o')) w := by
  obtain ⟨j, hj, hjs⟩ := Option.map_eq_some_iff.1 hsz
  have h : ∀ d, (Op.equalIn (d + 1) xt (pAt g o) (pAt g o')).run P w = .ok (decide (o = o')) w := fun d => by
    by_cases h : o = o' <;> simp [Op.equalIn, run_underlying hu, sizeOf, typeInfo, hj, hjs, sameAddr, h]
  exact h 9999
theorem op_nePP {x y : Operand} {g o o' : Nat} {xt yt t : TypeId} {n : Nat} (hx : Opd E x = some (Is (pAt g o))) (hy : Opd E y = some (Is (pAt g o'))) (hu : P.underlying xt = some (.pointer t)) (hsz : (P.info? t).map (·.size) = some (n + 1)) : OpP P L E ⟨dst, .binOp .neq xt x y yt, ty, pos, after, gd⟩ (Is (.bool (!decide (o = o')))) :=
  OpP.same fun a w G S _ _ ho => by
    have h1 : a.eval x = pAt g o := ho x (by simp [Op.operands]) _ hx
    have h2 : a.eval y = pAt g o' := ho y (by simp [Op.operands]) _ hy
    refine ⟨.bool (!decide (o = o')), ?_, rfl⟩
    simp only [execOp, h1, h2]
    simp [eqGuard, binOp, run_eqPP w hu hsz]

/-! ### more of append -/
theorem slx_nil {α : Type} {sz : Nat} (f : α → List Ty) {tss : List (List Ty)} (h0 : tss = []) {G : Imm} {v : Value} (k : (TSlX sz (fun ts : List Ty => ts) tss).p G v) : (TSlX sz f ([] : List α)).p G v := by
  subst h0
  exact SlP.map (f := f) (l := []) rfl k
theorem op_append0 {x : Nat} {y : Operand} {α : Type} {sz by_ : Nat} {f : α → List Ty} {m : List α} {t e : TypeId} {z : Value} (hx : E.get x = some (TSlX sz (fun ts : List Ty => ts) [])) (hy : Opd ((x, TSlX sz f ([] : List α)) :: E) y = some (TSl sz f m))
    (hu : P.underlying t = some (.slice e)) (hinf : (P.info? e).map (fun i => (i.zero, i.size, i.bytes)) = some (some z, sz, by_)) (hb : m.length * by_ ≤ 140737488355328 ∧ m.length ≤ maxLen) :
    OpP P L E ⟨dst, .call { callee := .builtin .append, args := #[.tmp x, y], argTypes := #[t, t] }, ty, pos, after, gd⟩ (TSl sz f m) :=
  OpP.unl (U0 := TSlX sz (fun ts : List Ty => ts) []) (T0 := TSlX sz f ([] : List α)) (fun _ _ k => slx_nil f rfl k) hx
    (op_appendX (l := ([] : List α)) (by simp [Opd, Env.get]) hy hu hinf (by simpa using hb.1) (by simpa using hb.2))
/-- append onto what was written out. -/
theorem op_appendXT {x y : Operand} {sz by_ : Nat} {l m : List (List Ty)} {t e : TypeId} {z : Value} (hx : Opd E x = some (TSlX sz (fun ts : List Ty => ts) l)) (hy : Opd E y = some (TSl sz (fun ts : List Ty => ts) m))
    (hu : P.underlying t = some (.slice e)) (hinf : (P.info? e).map (fun i => (i.zero, i.size, i.bytes)) = some (some z, sz, by_)) (hb : (l.length + m.length) * by_ ≤ 140737488355328 ∧ l.length + m.length ≤ maxLen) :
    OpP P L E ⟨dst, .call { callee := .builtin .append, args := #[x, y], argTypes := #[t, t] }, ty, pos, after, gd⟩ (TSl sz (fun ts : List Ty => ts) (l ++ m)) := op_appendX hx hy hu hinf hb.1 hb.2
theorem SlP.unmap {α : Type} {x : Bool} {sz : Nat} {f : α → List Ty} {l : List α} {G : Imm} {v : Value} (k : SlP x sz f l G v) : SlP x sz (fun ts : List Ty => ts) (l.map f) G v := by
  obtain ⟨a, cap, h1, h2, h3, h4, h5, h6⟩ := k
  refine ⟨a, cap, by simpa using h1, by simpa using h2, h3, by simpa using h4, h5, fun ad e => ?_⟩
  obtain ⟨k1, k2⟩ := h6 ad e
  refine ⟨fun hp => k1 (by simpa using hp), fun i y hy => ?_⟩
  simp only [List.getElem?_map, Option.map_eq_some_iff] at hy
  obtain ⟨z, hz, rfl⟩ := hy
  exact k2 i z hz
theorem Sub.unT {α : Type} (sz : Nat) (f : α → List Ty) (l : List α) : Sub (TSl sz f l) (TSl sz (fun ts : List Ty => ts) (l.map f)) := fun _ _ k => SlP.unmap k
/-- append onto a slice of one's own what is written out: all as rows of types. -/
theorem oc_appendT {x : Nat} {y : Operand} {α : Type} {sz by_ : Nat} {f : α → List Ty} {l : List α} {tss : List (List Ty)} {t e : TypeId} {z v : Value} {L' : Value → List Res} (i : Nat) (hx : E.get x = some (TAnd (Is v) (TSl sz f l))) (hL : L[i]? = some (ownSl v sz e)) (hy : Opd E y = some (TSlX sz (fun ts : List Ty => ts) tss))
    (hu : P.underlying t = some (.slice e)) (hinf : (P.info? e).map (fun i => (i.zero, i.size, i.bytes)) = some (some z, sz, by_)) (hz : z.cells.size = sz) (hb : (l.length + tss.length) * by_ ≤ 140737488355328 ∧ l.length + tss.length ≤ maxLen) (hL' : ∀ v', L.set i (ownSl v' sz e) = L' v') :
    OpC P L E ⟨dst, .call { callee := .builtin .append, args := #[.tmp x, y], argTypes := #[t, t] }, ty, pos, after, gd⟩ (fun v' => TAnd (Is v') (TSl sz (fun ts : List Ty => ts) (l.map f ++ tss))) L' := by
  have hLe : L' = fun v' => L.set i (ownSl v' sz e) := by funext v'; exact (hL' v').symm
  subst hLe
  intro a w G S hsat ho ht K Q k
  have hxx := ht (.tmp x) (by simp [Op.operands, Call.operands]) _ hx
  have hyy := TSlX.sl (ht y (by simp [Op.operands, Call.operands]) _ hy)
  have hxv : a.eval (.tmp x) = v := hxx.1
  obtain ⟨v', w', G', S', hr, h1, h2, h3, h4⟩ := run_append_res (P := P) (tyy := ty) (l := l.map f) (f := fun ts : List Ty => ts) hu hinf hz hsat ho hL (by rw [← hxv]; exact SlP.unmap hxx.2) hyy (by simpa using hb.1) (by simpa using hb.2)
  have : (execOp a.eval (⟨dst, .call { callee := .builtin .append, args := #[.tmp x, y], argTypes := #[t, t] }, ty, pos, after, gd⟩ : Oper)).run P w = .ok (.value v') w' := by
    simp only [execOp, resolve]
    simp [invoke, builtin, hxv, hr]
  simp only [Oper.wp, this, Oper.upon_value]
  exact k v' w' G' S' h1 h2 h3 ⟨rfl, h4⟩
end
section
variable {F : FCtx} {E : Env} {L L' : List Res} {Q : Exit → Act → World → Prop} {ops : Array Oper} {rest : List Oper} {d : Nat} {ty : TypeId} {pos : String} {after : Array Edge}
end
end Go.Vk
