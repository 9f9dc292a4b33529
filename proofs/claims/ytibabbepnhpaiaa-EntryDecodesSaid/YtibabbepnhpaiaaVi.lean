/-
  The steps with resources in the form that 'run' takes. Nothing here speaks of a program; no conditions.
-/
import Derived.Test.YtibabbepnhpaiaaVh
set_option linter.unusedVariables false
namespace Go.Vk
/-- The variables of these slots are written. -/
structure Mut (ds : List Nat) : Prop where
  t : True
theorem Mut.mk' (ds : List Nat) : Mut ds := ⟨trivial⟩
theorem Sub.agg {ts ts' : List Ty} (h : TsSub ts ts') : Sub (TAgg ts) (TAgg ts') := by
  rintro G v ⟨vs, rfl, hl, k⟩
  obtain ⟨k1, k2⟩ := TsSub.get h
  exact ⟨vs, rfl, by omega, fun j U u e1 e2 => by
    obtain ⟨T, e3, e4⟩ := k2 j U e1
    exact ⟨e4 _ _ (k j T u e3 e2).1, (k j T u e3 e2).2⟩⟩
theorem Sub.nilO {α : Type} {sz : Nat} {f : α → List Ty} {l : List α} (h : [] = l) : Sub (Is (.slice none 0 0)) (TAnd (Is (.slice none 0 0)) (TSl sz f l)) := fun G v k => ⟨k, Sub.nil' h G v k⟩
theorem LitT.nil : LitT [] [] := trivial
theorem LitT.is {v : Value} {vs : List Value} {ts : List Ty} (h : v.oneCell' = true) (k : LitT vs ts) : LitT (v :: vs) (Is v :: ts) := ⟨⟨rfl, h⟩, k⟩
theorem LitT.s0 {v : Value} {vs : List Value} {ts : List Ty} (h : v = str []) (k : LitT vs ts) : LitT (v :: vs) (Is (str []) :: ts) := ⟨⟨h, by rw [h]; rfl⟩, k⟩
theorem isLitT {zs : List Value} {ts : List Ty} (h : LitT zs ts) : LitT zs ts := h
theorem isDist {is : List Nat} (h : distinct is = true) : distinct is = true := h
theorem isTo {L L' : List Res} (h : To L L') : To L L' := h
section
variable {F : FCtx} {E : Env} {L L' : List Res} {Q : Exit → Act → World → Prop} {ops : Array Oper} {rest : List Oper} {d : Nat} {ty : TypeId} {pos : String} {after : Array Edge}
theorem op_appendS {P : Program} {dst : Option Tmp} {gd : Option (Nat × Bool)} {x y : Operand} {α : Type} {sz by_ : Nat} {f : α → List Ty} {l m : List α} {t e : TypeId} {z v : Value} {U : Ty} (i : Nat) (hx : Opd E x = some (TAnd (Is v) (TSl sz f l))) (hy : Opd E y = some U) (hs : Sub U (TSl sz f m)) (hL : L[i]? = some (ownSl v sz e))
    (hu : P.underlying t = some (.slice e)) (hinf : (P.info? e).map (fun i => (i.zero, i.size, i.bytes)) = some (some z, sz, by_)) (hz : z.cells.size = sz) (hb : (l.length + m.length) * by_ ≤ 140737488355328) (hm : l.length + m.length ≤ maxLen) :
    OpC P L E ⟨dst, .call { callee := .builtin .append, args := #[x, y], argTypes := #[t, t] }, ty, pos, after, gd⟩ (fun v' => TAnd (Is v') (TSl sz f (l ++ m))) (fun v' => L.set i (ownSl v' sz e)) := by
  intro a w G S hsat ho ht K Q k
  have hxx := ht x (by simp [Op.operands, Call.operands]) _ hx
  have hyy := hs _ _ (ht y (by simp [Op.operands, Call.operands]) _ hy)
  have hxv : a.eval x = v := hxx.1
  obtain ⟨v', w', G', S', hr, h1, h2, h3, h4⟩ := run_append_res (P := P) (tyy := ty) hu hinf hz hsat ho hL (by rw [← hxv]; exact hxx.2) hyy hb hm
  have : (execOp a.eval (⟨dst, .call { callee := .builtin .append, args := #[x, y], argTypes := #[t, t] }, ty, pos, after, gd⟩ : Oper)).run P w = .ok (.value v') w' := by
    simp only [execOp, resolve]
    simp [invoke, builtin, hxv, hr]
  simp only [Oper.wp, this, Oper.upon_value]
  exact k v' w' G' S' h1 h2 h3 ⟨rfl, h4⟩
theorem PickL.own {is : List Nat} {B : List Res} {g : Nat} {e : TypeId} {ts ts' : List Ty} (i : Nat) (h : L[i]? = some (ownP g e ts)) (hs : TsSub ts ts') (k : PickL L is B) : PickL L (i :: is) (ownP g e ts' :: B) := .cons i h (RSub.own hs) k
theorem PickL.any {is : List Nat} {B : List Res} {R : Res} (i : Nat) (h : L[i]? = some R) (k : PickL L is B) : PickL L (i :: is) (R :: B) := .cons i h (RSub.refl _) k
theorem PickL.sl {is : List Nat} {B : List Res} {v : Value} {sz : Nat} {e : TypeId} (i : Nat) (h : L[i]? = some (ownSl v sz e)) (k : PickL L is B) : PickL L (i :: is) (ownSl v sz e :: B) := .cons i h (RSub.refl _) k
end
section
variable {P : Program} {L L' : List Res} {E : Env} {dst : Option Tmp} {ty : TypeId} {pos : String} {after : Array Edge} {gd : Option (Nat × Bool)}
theorem oc_storeO {x y : Operand} {g o : Nat} {e : TypeId} {ts ts' : List Ty} {T : Ty} {t : TypeId} (i : Nat) (hx : Opd E x = some (Is (pAt g o))) (hL : L[i]? = some (ownP g e ts)) (hy : Opd E y = some T) (h1c : One T) (hsz : (P.info? t).map (·.size) = some 1) (hlt : Nat.blt o ts.length = true) (ht : ts.set o T = ts') (hL' : L.set i (ownP g e ts') = L') :
    OpC P L E ⟨dst, .store t x y, ty, pos, after, gd⟩ (fun v => Is v) (fun _ => L') := op_storeO i hx hy h1c hL hsz hlt ht hL'
theorem oc_storeAO {x y : Operand} {g o n : Nat} {e : TypeId} {ts ts' us : List Ty} {t : TypeId} (i : Nat) (hx : Opd E x = some (Is (pAt g o))) (hL : L[i]? = some (ownP g e ts)) (hy : Opd E y = some (TAgg us)) (hsz : (P.info? t).map (·.size) = some n) (hn : us.length = n) (hlt : Nat.ble (o + n) ts.length = true) (ht : ts.take o ++ us ++ ts.drop (o + n) = ts') (hL' : L.set i (ownP g e ts') = L') :
    OpC P L E ⟨dst, .store t x y, ty, pos, after, gd⟩ (fun v => Is v) (fun _ => L') := op_storeAO i hx hy hL hsz hn hlt ht hL'
theorem oc_alloc {e : TypeId} {z : Value} {zs : List Value} {ts : List Ty} {L' : Nat → List Res} (hz : (P.info? e).map (·.zero) = some (some z)) (hc : z.cells.toList = zs) (ht : LitT zs ts) (hL' : ∀ g, L ++ [ownP g e ts] = L' g) :
    OpC P L E ⟨dst, .alloc e, ty, pos, after, gd⟩ (fun v => Is (pAt (blk v) 0)) (fun v => L' (blk v)) := by
  have := op_alloc (P := P) (L := L) (E := E) (dst := dst) (ty := ty) (pos := pos) (after := after) (gd := gd) hz hc ht
  simpa only [hL'] using this
theorem oc_boxM {x : Operand} {T : Ty} {e : TypeId} {ts : List Ty} {L' : Nat → List Res} {ds : List Nat} {d : Nat} (hm : Mut ds) (hmd : ds.any (Nat.beq d) = true) (hx : Opd E x = some T) (hc : CellsOf T ts) (hL' : ∀ g, L ++ [ownP g e ts] = L' g) :
    OpC P L E ⟨some d, .box e x, ty, pos, after, gd⟩ (fun v => Is (pAt (blk v) 0)) (fun v => L' (blk v)) := by
  have := op_box (P := P) (L := L) (E := E) (e := e) (dst := some d) (ty := ty) (pos := pos) (after := after) (gd := gd) hx hc
  simpa only [hL'] using this
theorem oc_callR {f : FuncId} {A : List Ty} {R : Res} {Li : List Res} {T : Ty} {Lo : List Res} {xs : List Operand} {tys : Array TypeId} {is : List Nat} (hf : CallsC P f A (R :: Li) (fun _ => T) (fun _ => Lo)) (zx : OpdsS E xs A) (zp : PickL L is (R :: Li)) (zd : distinct is = true) (zl : Nat.ble is.length Lo.length = true) (zL : updL L is Lo = L') :
    OpC P L E ⟨dst, .call { callee := .value (.func f), args := xs.toArray, argTypes := tys }, ty, pos, after, gd⟩ (fun _ => T) (fun _ => L') := by
  have := op_callR (P := P) (L := L) (E := E) (dst := dst) (ty := ty) (pos := pos) (after := after) (gd := gd) (tys := tys) hf zx zp zd (fun _ => Nat.le_of_ble_eq_true zl)
  simpa only [zL] using this
/-- A call that hands back a pointer to a new block. -/
theorem oc_callN {f : FuncId} {A : List Ty} {e : TypeId} {ts : List Ty} {xs : List Operand} {tys : Array TypeId} {L' : Nat → List Res} (hf : CallsC P f A [] (fun v => Is (pAt (blk v) 0)) (fun v => [ownP (blk v) e ts])) (zx : OpdsS E xs A) (zL : ∀ g, L ++ [ownP g e ts] = L' g) :
    OpC P L E ⟨dst, .call { callee := .value (.func f), args := xs.toArray, argTypes := tys }, ty, pos, after, gd⟩ (fun v => Is (pAt (blk v) 0)) (fun v => L' (blk v)) := by
  have := op_callR (P := P) (L := L) (E := E) (dst := dst) (ty := ty) (pos := pos) (after := after) (gd := gd) (tys := tys) (is := []) hf zx PickL.nil rfl (fun _ => Nat.zero_le _)
  simpa only [updL, zL] using this
/-- append onto a slice of one's own. -/
theorem oc_appendO {x y : Operand} {α : Type} {sz by_ : Nat} {f : α → List Ty} {l m : List α} {t e : TypeId} {z v : Value} {U : Ty} {L' : Value → List Res} (i : Nat) (hx : Opd E x = some (TAnd (Is v) (TSl sz f l))) (hL : L[i]? = some (ownSl v sz e)) (hy : Opd E y = some U) (hs : Sub U (TSl sz f m))
    (hu : P.underlying t = some (.slice e)) (hinf : (P.info? e).map (fun i => (i.zero, i.size, i.bytes)) = some (some z, sz, by_)) (hz : z.cells.size = sz) (hb : (l.length + m.length) * by_ ≤ 140737488355328 ∧ l.length + m.length ≤ maxLen) (hL' : ∀ v', L.set i (ownSl v' sz e) = L' v') :
    OpC P L E ⟨dst, .call { callee := .builtin .append, args := #[x, y], argTypes := #[t, t] }, ty, pos, after, gd⟩ (fun v' => TAnd (Is v') (TSl sz f (l ++ m))) L' := by
  have := op_appendS (P := P) (L := L) (E := E) (dst := dst) (ty := ty) (pos := pos) (after := after) (gd := gd) i hx hy hs hL hu hinf hz hb.1 hb.2
  simpa only [hL'] using this
/-- append onto nil. -/
theorem oc_appendNil {x y : Operand} {α : Type} {sz by_ : Nat} {f : α → List Ty} {m : List α} {t e : TypeId} {z : Value} {U : Ty} {L' : Value → List Res} (hx : Opd E x = some (Is (.slice none 0 0))) (hy : Opd E y = some U) (hs : Sub U (TSl sz f m))
    (hu : P.underlying t = some (.slice e)) (hinf : (P.info? e).map (fun i => (i.zero, i.size, i.bytes)) = some (some z, sz, by_)) (hz : z.cells.size = sz) (hb : m.length * by_ ≤ 140737488355328 ∧ m.length ≤ maxLen) (hL' : ∀ v', L ++ [ownSl v' sz e] = L' v') :
    OpC P L E ⟨dst, .call { callee := .builtin .append, args := #[x, y], argTypes := #[t, t] }, ty, pos, after, gd⟩ (fun v' => TAnd (Is v') (TSl sz f m)) L' := by
  have hLe : L' = fun v' => L ++ [ownSl v' sz e] := by funext v'; exact (hL' v').symm
  subst hLe
  intro a w G S hsat ho ht K Q k
  -- nil owns nothing: one place more
  have ho' : Owns S (L ++ [ownSl (.slice none 0 0) sz e]) G w := by
    refine ⟨ho.bound, ho.disj, fun i b hb => by have := ho.inL i b hb; simp; omega, fun i r hr => ?_⟩
    by_cases hi : i < L.length
    · rw [List.getElem?_append_left hi] at hr; exact ho.res i r hr
    · have hlt := (List.getElem?_eq_some_iff.1 hr).1
      have hil : i = L.length := by simp at hlt; omega
      subst hil
      simp at hr
      subst hr
      exact .inl ⟨rfl, fun b hb => by have := ho.inL _ b hb; omega⟩
  have hxx : a.eval x = .slice none 0 0 := ht x (by simp [Op.operands, Call.operands]) _ hx
  have hyy := hs _ _ (ht y (by simp [Op.operands, Call.operands]) _ hy)
  obtain ⟨v', w', G', S', hr, h1, h2, h3, h4⟩ := run_append_res (P := P) (tyy := ty) (l := ([] : List α)) (f := f) (i := L.length) hu hinf hz hsat ho' (by simp) (TSlX.sl (nil_sl sz f G)) hyy (by simpa using hb.1) (by simpa using hb.2)
  have : (execOp a.eval (⟨dst, .call { callee := .builtin .append, args := #[x, y], argTypes := #[t, t] }, ty, pos, after, gd⟩ : Oper)).run P w = .ok (.value v') w' := by
    simp only [execOp, resolve]
    simp [invoke, builtin, hxx, hr]
  simp only [Oper.wp, this, Oper.upon_value]
  refine k v' w' G' S' h1 ?_ h3 ⟨rfl, by simpa using h4⟩
  have e : (L ++ [ownSl (.slice none 0 0) sz e]).set L.length (ownSl v' sz e) = L ++ [ownSl v' sz e] := by
    rw [List.set_append_right _ _ (Nat.le_refl _)]; simp
  show Owns S' (L ++ [ownSl v' sz _]) G' w'
  rw [← e]; exact h2
end
def endB : Exit → Bool
  | .ret => true
  | .normal => true
  | _ => false
theorem endB.or {e : Exit} (h : endB e = true) : e = .ret ∨ e = .normal := by cases e <;> simp [endB] at h <;> simp
section
variable {P : Program} {L : List Res} {E : Env} {fn : Func} {w0 : World} {G0 : Imm} {S0 : Nat → Nat → Prop} {N : Nat}
theorem HX.fin1 {x : Exit} (he : endB x = true) {U T : Ty} {Lo : List Res} {is : List (List Nat)} (hr : ResR P L E fn.results.toList [U]) (hp : PickX L is Lo) (hd : distinct is.flatten = true) (hT : Sub U T) : HX (FC P N w0 G0 S0) E L (bodyPost P fn (RetR w0 G0 S0 (fun _ => T) (fun _ => Lo))) x := HX.fin is (endB.or he) hr hd hp hT
theorem HX.finN {x : Exit} (he : endB x = true) {Us : List Ty} {T : Ty} {Lo : List Res} {is : List (List Nat)} (hr : ResR P L E fn.results.toList Us) (hn : Nat.beq Us.length 1 = false) (hp : PickX L is Lo) (hd : distinct is.flatten = true) (hT : Sub (TTup Us) T) : HX (FC P N w0 G0 S0) E L (bodyPost P fn (RetR w0 G0 S0 (fun _ => T) (fun _ => Lo))) x :=
  HX.fin is (endB.or he) hr hd hp (by
    match Us, hn with
    | [], _ => exact hT
    | [_], h => simp at h
    | _ :: _ :: _, _ => exact hT)

theorem HX.finS {x : Exit} (he : endB x = true) {v : Value} {sz : Nat} {e : TypeId} {T U : Ty} {is : List (List Nat)} (hr : ResR P L E fn.results.toList [TAnd (Is v) U]) (hp : PickX L is [ownSl v sz e]) (hd : distinct is.flatten = true) (hT : Sub U T) : HX (FC P N w0 G0 S0) E L (bodyPost P fn (RetR w0 G0 S0 (fun v => TAnd (Is v) T) (fun v => [ownSl v sz e]))) x :=
  HX.finG is (endB.or he) hr (fun G u h => by obtain ⟨h1, h2⟩ := h; cases h1; exact ⟨⟨rfl, hT _ _ h2⟩, hp⟩) hd
/-- A pointer to a new block is handed back. -/
theorem HX.finB {x : Exit} (he : endB x = true) {g : Nat} {e : TypeId} {ts : List Ty} {is : List (List Nat)} (hr : ResR P L E fn.results.toList [Is (pAt g 0)]) (hp : PickX L is [ownP g e ts]) (hd : distinct is.flatten = true) : HX (FC P N w0 G0 S0) E L (bodyPost P fn (RetR w0 G0 S0 (fun v => Is (pAt (blk v) 0)) (fun v => [ownP (blk v) e ts]))) x := HX.finP is (endB.or he) hr hd hp (Sub.refl _)
end
end Go.Vk
