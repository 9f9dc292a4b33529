/-
  Returns that hand resources back, results that are variables; loops and joints with resources. Nothing here speaks of a program; no conditions.
  Rules for structs by value, strings, rows of structs. Nothing here speaks of a program; no conditions.
  Rules for conversions of texts, equality of structs, least and greatest, functions as values. Nothing here speaks of a program; no conditions.
  The steps with resources in the form that 'run' takes. Nothing here speaks of a program; no conditions.
-/
import Derived.Test.YtkpghepeagafoaaGah
import Derived.Laws.StructEq
import Derived.Laws.IdiomStrings
set_option linter.unusedSimpArgs false
set_option linter.unusedVariables false
set_option linter.unusedVariables false
namespace Go.Vk

/-- What the results are. -/
def ResR (P : Program) (L : List Res) (E : Env) : List ResultVar → List Ty → Prop
  | [], [] => True
  | .tmp t :: rs, U :: Us => E.get t = some U ∧ ResR P L E rs Us
  | .cell a t :: rs, U :: Us => (∃ (g : Nat) (e : TypeId) (ts : List Ty) (i : Nat), E.get a = some (Is (pAt g 0)) ∧ L[i]? = some (ownP g e ts) ∧ ((aggB P t = some true ∧ (P.info? t).map (·.size) = some ts.length ∧ U = TAgg ts) ∨ (aggB P t = some false ∧ ts[0]? = some U))) ∧ ResR P L E rs Us
  | _, _ => False
section
variable {P : Program} {L : List Res} {E : Env}
theorem ResR.nil : ResR P L E [] [] := trivial
theorem ResR.tmp {t : Tmp} {rs : List ResultVar} {U : Ty} {Us : List Ty} (h : E.get t = some U) (k : ResR P L E rs Us) : ResR P L E (.tmp t :: rs) (U :: Us) := ⟨h, k⟩
theorem ResR.cellA {a : Tmp} {t : TypeId} {rs : List ResultVar} {g : Nat} {e : TypeId} {ts : List Ty} {Us : List Ty} (i : Nat) (h : E.get a = some (Is (pAt g 0))) (hL : L[i]? = some (ownP g e ts)) (hag : aggB P t = some true) (hsz : (P.info? t).map (·.size) = some ts.length) (k : ResR P L E rs Us) : ResR P L E (.cell a t :: rs) (TAgg ts :: Us) := ⟨⟨g, e, ts, i, h, hL, .inl ⟨hag, hsz, rfl⟩⟩, k⟩
theorem ResR.cell1 {a : Tmp} {t : TypeId} {rs : List ResultVar} {g : Nat} {e : TypeId} {ts : List Ty} {U : Ty} {Us : List Ty} (i : Nat) (h : E.get a = some (Is (pAt g 0))) (hL : L[i]? = some (ownP g e ts)) (hag : aggB P t = some false) (hT : ts[0]? = some U) (k : ResR P L E rs Us) : ResR P L E (.cell a t :: rs) (U :: Us) := ⟨⟨g, e, ts, i, h, hL, .inr ⟨hag, hT⟩⟩, k⟩
def retTy : List Ty → Ty
  | [U] => U
  | Us => TTup Us

theorem run_cellA {g : Nat} {e : TypeId} {ts : List Ty} {i : Nat} {t : TypeId} {S : Nat → Nat → Prop} {G : Imm} {w : World} (ho : Owns S L G w) (hL : L[i]? = some (ownP g e ts)) (hag : aggB P t = some true) (hsz : (P.info? t).map (·.size) = some ts.length) : ∃ v, (loadVar t ⟨g, 0, none⟩).run P w = .ok v w ∧ (TAgg ts).p G v := by
  obtain ⟨_, ⟨cs, h2, h3, h4⟩, _⟩ := ownP.at ho hL
  refine ⟨.agg cs.toList.toArray, ?_, cs.toList, rfl, by simpa using h3, fun j T u e1 e2 => ?_⟩
  · have hr := run_loadCells_row (P := P) w g 0 cs.toList (fun j u e => by simp [World.cell?, h2]; simpa using e)
    simp only [Array.length_toList, h3] at hr
    simp [loadVar, run_isAgg hag, run_sizeOf hsz, hr]
  · obtain ⟨u', h5, h6, h7⟩ := h4 _ _ e1
    have : u' = u := by
      have e3 : cs[j]? = some u := by simpa using e2
      rw [h5] at e3; cases e3; rfl
    subst this; exact ⟨h6, h7⟩
theorem run_cell1 {g : Nat} {e : TypeId} {ts : List Ty} {i : Nat} {t : TypeId} {U : Ty} {S : Nat → Nat → Prop} {G : Imm} {w : World} (ho : Owns S L G w) (hL : L[i]? = some (ownP g e ts)) (hag : aggB P t = some false) (hT : ts[0]? = some U) : ∃ v, (loadVar t ⟨g, 0, none⟩).run P w = .ok v w ∧ U.p G v := by
  obtain ⟨_, ⟨cs, h2, h3, h4⟩, _⟩ := ownP.at ho hL
  obtain ⟨u, h5, h6, h7⟩ := h4 _ _ hT
  refine ⟨u, ?_, h6⟩
  have hcell : w.cell? ⟨g, 0, none⟩ = some u := by simp [World.cell?, h2, h5]
  simp [loadVar, run_isAgg hag, hcell]

theorem ResR.list {N : Nat} {a : Act} {S : Nat → Nat → Prop} {G : Imm} {w : World} (ht : Typed N E G a) (ho : Owns S L G w) (f : ResultVar → Sem Value) (hf1 : ∀ t, (f (.tmp t)).run P w = .ok (a.tmps.getD t undef) w) (hf2 : ∀ p t g, a.tmps.getD p undef = pAt g 0 → (f (.cell p t)).run P w = (loadVar t ⟨g, 0, Option.none⟩).run P w) : ∀ (rs : List ResultVar) (Us : List Ty), ResR P L E rs Us →
    ∃ vs : List Value, (List.mapM f rs).run P w = .ok vs w ∧ ArgsT G Us vs
  | [], [], _ => ⟨[], by simp, trivial⟩
  | .tmp t :: rs, U :: Us, ⟨h, k⟩ => by
    obtain ⟨vs, h1, h2⟩ := ResR.list ht ho f hf1 hf2 rs Us k
    exact ⟨a.tmps.getD t undef :: vs, by simp only [List.mapM_cons, Sem.run_bind, Sem.run_pure, Result.andThen_ok, h1, hf1], ht.get t U h, h2⟩
  | .cell p t :: rs, U :: Us, ⟨⟨g, e, ts, i, h, hL, hc⟩, k⟩ => by
    obtain ⟨vs, h1, h2⟩ := ResR.list ht ho f hf1 hf2 rs Us k
    have hp : a.tmps.getD p undef = pAt g 0 := ht.get p _ h
    have key : ∃ v, (loadVar t ⟨g, 0, Option.none⟩).run P w = .ok v w ∧ U.p G v := by
      rcases hc with ⟨c1, c2, rfl⟩ | ⟨c1, c2⟩
      · exact run_cellA ho hL c1 c2
      · exact run_cell1 ho hL c1 c2
    obtain ⟨v, h3, h4⟩ := key
    exact ⟨v :: vs, by simp only [List.mapM_cons, Sem.run_bind, Sem.run_pure, Result.andThen_ok, h1, hf2 p t g hp, h3], h4, h2⟩
theorem ArgsT.tup {G : Imm} {Us : List Ty} {vs : List Value} (h : ArgsT G Us vs) : (TTup Us).p G (.tuple vs.toArray) := by
  obtain ⟨h1, h2⟩ := ArgsT.get _ _ h
  exact ⟨vs, rfl, h1.symm, fun j T u e1 e2 => by obtain ⟨v, e3, e4⟩ := h2 j T e1; rw [e2] at e3; cases e3; exact e4⟩
theorem ResR.val {fn : Func} {N : Nat} {Us : List Ty} {a : Act} {S : Nat → Nat → Prop} {G : Imm} {w : World} (h : ResR P L E fn.results.toList Us) (ht : Typed N E G a) (ho : Owns S L G w) : ∃ v, (results fn a.tmps).run P w = .ok v w ∧ (retTy Us).p G v := by
  have gen : ∀ f : ResultVar → Sem Value, (∀ t, (f (.tmp t)).run P w = .ok (a.tmps.getD t undef) w) → (∀ p t g, a.tmps.getD p undef = pAt g 0 → (f (.cell p t)).run P w = (loadVar t ⟨g, 0, Option.none⟩).run P w) →
      ∃ v, ((((List.mapM f fn.results.toList).run P w).andThen fun a w' => Result.ok a.toArray w').andThen fun a w' => Sem.run P (pure (if h : a.size = 1 then a[0] else Value.tuple a)) w') = Result.ok v w ∧ (retTy Us).p G v := by
    intro f hf1 hf2
    obtain ⟨vs, h1, h2⟩ := ResR.list ht ho f hf1 hf2 _ _ h
    rw [h1]
    simp only [Result.andThen_ok]
    match Us, vs, h2 with
    | [], [], _ => exact ⟨_, rfl, ⟨[], rfl, rfl, fun j T u e => by simp at e⟩⟩
    | [U], [v], h2 => exact ⟨v, by simp, h2.1⟩
    | U :: U' :: Us, v :: v' :: vs, h2 => exact ⟨.tuple (v :: v' :: vs).toArray, by simp, ArgsT.tup h2⟩
    | [], _ :: _, h2 => exact h2.elim
    | _ :: _, [], h2 => exact h2.elim
    | [_], _ :: _ :: _, h2 => exact h2.2.elim
    | _ :: _ :: _, [_], h2 => exact h2.2.elim
  have hr : fn.results = fn.results.toList.toArray := by simp
  unfold results
  rw [hr]
  simp only [List.mapM_toArray, Sem.run_bind, Sem.run_map]
  exact gen _ (fun t => by simp only [Sem.run_pure]) (fun p t g hp => by simp only [hp, asAddr, Sem.run_bind, Sem.run_pure, Result.andThen_ok])
end
section
variable {P : Program} {L : List Res} {E : Env} {fn : Func} {w0 : World} {G0 : Imm} {S0 : Nat → Nat → Prop} {N : Nat}
/-- A function is at its end: what it hands back, value and resources. -/
theorem HX.finG {e : Exit} {Us : List Ty} {T : Value → Ty} {Lo : Value → List Res} (is : List (List Nat)) (he : e = .ret ∨ e = .normal) (hr : ResR P L E fn.results.toList Us) (hT : ∀ G v, (retTy Us).p G v → (T v).p G v ∧ PickX L is (Lo v)) (hd : distinct is.flatten = true) : HX (FC P N w0 G0 S0) E L (bodyPost P fn (RetR w0 G0 S0 T Lo)) e :=
  HX.val he fun a w G S hi ht => by
    obtain ⟨v, h1, h2⟩ := hr.val ht hi.owns
    obtain ⟨h3, h4⟩ := hT G v h2
    exact ⟨v, h1, h3, _, hi.owns.pickX hd h4, fun k b ⟨_, _, i, _, hb⟩ => ⟨i, hb⟩⟩
theorem HX.fin {e : Exit} {Us : List Ty} {T : Ty} {Lo : List Res} (is : List (List Nat)) (he : e = .ret ∨ e = .normal) (hr : ResR P L E fn.results.toList Us) (hd : distinct is.flatten = true) (hp : PickX L is Lo) (hT : Sub (retTy Us) T) : HX (FC P N w0 G0 S0) E L (bodyPost P fn (RetR w0 G0 S0 (fun _ => T) (fun _ => Lo))) e :=
  HX.finG is he hr (fun G v h => ⟨hT G v h, hp⟩) hd
/-- The value is known: a pointer. -/
theorem HX.finP {e : Exit} {u : Value} {T : Value → Ty} {Lo : Value → List Res} (is : List (List Nat)) (he : e = .ret ∨ e = .normal) (hr : ResR P L E fn.results.toList [Is u]) (hd : distinct is.flatten = true) (hp : PickX L is (Lo u)) (hT : Sub (Is u) (T u)) : HX (FC P N w0 G0 S0) E L (bodyPost P fn (RetR w0 G0 S0 T Lo)) e :=
  HX.finG is he hr (fun G v h => by cases h; exact ⟨hT G _ rfl, hp⟩) hd
end

/-! ### loops and joints -/
theorem Inv.pickX {F : FCtx} {A B : List Res} {is : List (List Nat)} {G : Imm} {w : World} {S : Nat → Nat → Prop} (h : Inv F A G w S) (hd : distinct is.flatten = true) (k : PickX A is B) : Inv F B G w (fun k b => ∃ js, is[k]? = some js ∧ ∃ i, i ∈ js ∧ S i b) := ⟨h.ext, h.owns.pickX hd k, fun j b ⟨_, _, i, _, hb⟩ => h.mine i b hb⟩
/-- The resources of a state, as a loop's head wants them. -/
structure To (L L' : List Res) : Prop where
  to : ∃ is, distinct is.flatten = true ∧ PickX L is L'
theorem To.mk' {L L' : List Res} {is : List (List Nat)} (hp : PickX L is L') (hd : distinct is.flatten = true) : To L L' := ⟨⟨is, hd, hp⟩⟩
theorem HT.loopX {F : FCtx} {E : Env} {L : List Res} {Q : Exit → Act → World → Prop} {c : Code} {σ : Type} (ks : List Nat) (upd : σ → Env) (L' : σ → List Res) (I : σ → Prop) (μ : σ → Nat) (s0 : σ) (hI : I s0) (hL : To L (L' s0)) (hu : SubE E (upd s0))
    (body : ∀ s, I s → HT F (upd s ++ E.keep ks) (L' s) c (Exit.then (RoundK F E ks upd L' I μ s) Q)) : HT F E L (.loop c) Q :=
  HT.loop (fun s => upd s ++ E.keep ks) L' I μ (fun a w G S hi ht => let ⟨is, hd, hp⟩ := hL.to; ⟨s0, G, _, hI, hi.pickX hd hp, ht.sub (hu.append (SubE.keep E ks))⟩) body
theorem HX.roundX {F : FCtx} {E E2 : Env} {L2 : List Res} {Q : Exit → Act → World → Prop} {σ : Type} {ks : List Nat} {upd : σ → Env} {L' : σ → List Res} {I : σ → Prop} {μ : σ → Nat} {s : σ} (s' : σ) (hI : I s' ∧ μ s' < μ s) (hk : E2.keep ks = E.keep ks) (hL : To L2 (L' s')) (hu : SubE E2 (upd s')) : HX F E2 L2 (Exit.then (RoundK F E ks upd L' I μ s) Q) .normal :=
  fun a w G S hi ht => let ⟨is, hd, hp⟩ := hL.to; ⟨s', G, _, hI, hi.pickX hd hp, ht.sub (hu.append (by rw [← hk]; exact SubE.keep E2 ks))⟩
theorem HX.midX {F : FCtx} {E E2 : Env} {L2 : List Res} {Q : Exit → Act → World → Prop} {σ : Type} {ks : List Nat} {upd : σ → Env} {L' : σ → List Res} {I : σ → Prop} (s' : σ) (hI : I s') (hk : E2.keep ks = E.keep ks) (hL : To L2 (L' s')) (hu : SubE E2 (upd s')) : HX F E2 L2 (Exit.then (MidK F E ks upd L' I) Q) .normal :=
  fun a w G S hi ht => let ⟨is, hd, hp⟩ := hL.to; ⟨s', G, _, hI, hi.pickX hd hp, ht.sub (hu.append (by rw [← hk]; exact SubE.keep E2 ks))⟩
/-- Some of the resources are let go, the others change places. -/
theorem HT.to {F : FCtx} {E : Env} {L L' : List Res} {Q : Exit → Act → World → Prop} {c : Code} (hL : To L L') (h : HT F E L' c Q) : HT F E L c Q := fun a w G S hi ht =>
  let ⟨is, hd, hp⟩ := hL.to; h a w G _ (hi.pickX hd hp) ht
/-- What is hidden is named. -/
theorem HT.unpack {F : FCtx} {E : Env} {L : List Res} {Q : Exit → Act → World → Prop} {c : Code} {σ : Type} {Rs : σ → List Res} (i : Nat) (hL : L[i]? = some (packR Rs)) (h : ∀ s, HT F E (L.set i empR ++ Rs s) c Q) : HT F E L c Q := fun a w G S hi ht => by
  obtain ⟨s, S', h1, h2⟩ := hi.owns.unpack hL
  exact h s a w G S' ⟨hi.ext, h1, fun k b hb => by obtain ⟨j, hj⟩ := h2 k b hb; exact hi.mine j b hj⟩ ht
end Go.Vk
set_option linter.unusedVariables false
namespace Go.Vk
section
variable {P : Program} {L : List Res} {E : Env} {dst : Option Tmp} {ty : TypeId} {pos : String} {after : Array Edge} {gd : Option (Nat × Bool)}

/-! ### strings -/
theorem str_size (l : List UInt8) : (ByteArray.mk l.toArray).size = l.length := size_str l
theorem run_strIndex (w : World) {t : TypeId} {l : List UInt8} {k : IntKind} {n : Int} (hu : P.underlying t = some .string) (h : 0 ≤ n ∧ n < (l.length : Int)) : (Instr.index t (str l) (.int k n)).run P w = .ok (.int .u8 ((l.getD n.toNat 0).toNat : Int)) w := by
  have hlt : n.toNat < l.length := by omega
  have hsz : (ByteArray.mk l.toArray).size = l.length := size_str l
  have hget : (ByteArray.mk l.toArray)[n.toNat]? = some (l.getD n.toNat 0) := by
    rw [getElem?_pos _ _ (by rw [hsz]; exact hlt)]
    congr 1
    rw [List.getD_eq_getElem?_getD, List.getElem?_eq_getElem hlt]
    rfl
  simp only [Instr.index, str, asIntOf, Sem.run_bind, Sem.run_pure, Result.andThen_ok, run_underlying hu, if_pos h.1, hget]
theorem op_sindex {x i : Operand} {l : List UInt8} {k : IntKind} {n : Int} {t : TypeId} (hx : Opd E x = some (Is (str l))) (hi : Opd E i = some (okI k n)) (hu : P.underlying t = some .string) (h : 0 ≤ n ∧ n < (l.length : Int)) : OpP P L E ⟨dst, .index t x i, ty, pos, after, gd⟩ (okI .u8 ((l.getD n.toNat 0).toNat : Int)) :=
  OpP.same fun a w G S _ _ ho => by
    have h1 : a.eval x = str l := ho x (by simp [Op.operands]) _ hx
    have h2 : a.eval i = .int k n := ho i (by simp [Op.operands]) _ hi
    refine ⟨_, ?_, rfl⟩
    simp only [execOp, h1, h2]
    simp [run_strIndex w hu h]
theorem op_sindexN {x ix : Operand} {l : List UInt8} {k : IntKind} {i : Nat} {t : TypeId} (hx : Opd E x = some (Is (str l))) (hi : Opd E ix = some (okI k (i : Int))) (hu : P.underlying t = some .string) (h : i < l.length) : OpP P L E ⟨dst, .index t x ix, ty, pos, after, gd⟩ (okI .u8 ((l.getD i 0).toNat : Int)) := by
  have := op_sindex (P := P) (L := L) (dst := dst) (ty := ty) (pos := pos) (after := after) (gd := gd) hx hi hu (by omega)
  simpa using this
theorem str_extract (l : List UInt8) (a b : Nat) : (ByteArray.mk l.toArray).extract a b = ByteArray.mk ((l.take b).drop a).toArray := by
  apply ByteArray.ext
  apply Array.toList_inj.1
  simp [ByteArray.data_extract, Array.toList_extract, List.extract_eq_take_drop]
  rw [List.drop_take]
theorem op_sslice {x : Operand} {lo hi : Option Operand} {l : List UInt8} {t : TypeId} {m n : Int} (hx : Opd E x = some (Is (str l))) (hu : P.underlying t = some .string)
    (hlo : (lo = none ∧ m = 0) ∨ ∃ o k, lo = some o ∧ Opd E o = some (okI k m)) (hhi : (hi = none ∧ n = (l.length : Int)) ∨ ∃ o k, hi = some o ∧ Opd E o = some (okI k n)) (h0 : 0 ≤ m) (h1 : m ≤ n) (h2 : n ≤ (l.length : Int)) :
    OpP P L E ⟨dst, .slice t x lo hi none, ty, pos, after, gd⟩ (Is (str ((l.take n.toNat).drop m.toNat))) :=
  OpP.same fun a w G S _ _ ho => by
    have e1 : a.eval x = str l := ho x (by simp [Op.operands]) _ hx
    refine ⟨_, ?_, rfl⟩
    obtain ⟨m, rfl⟩ := Int.eq_ofNat_of_zero_le h0
    obtain ⟨n, rfl⟩ := Int.eq_ofNat_of_zero_le (show 0 ≤ n by omega)
    have g1 : m ≤ n := by omega
    have g2 : n ≤ l.length := by omega
    have hlo' : lo.map a.eval = none ∧ m = 0 ∨ ∃ k, lo.map a.eval = some (.int k m) := by
      rcases hlo with ⟨rfl, h⟩ | ⟨o, k, rfl, hk⟩
      · exact .inl ⟨rfl, by omega⟩
      · exact .inr ⟨k, by have : a.eval o = .int k m := ho o (by simp [Op.operands]) _ hk
                          simp [this]⟩
    have hhi' : hi.map a.eval = none ∧ n = l.length ∨ ∃ k, hi.map a.eval = some (.int k n) := by
      rcases hhi with ⟨rfl, h⟩ | ⟨o, k, rfl, hk⟩
      · exact .inl ⟨rfl, by omega⟩
      · exact .inr ⟨k, by have : a.eval o = .int k n := ho o (by simp [Op.operands]) _ hk
                          simp [this]⟩
    have hr : (Instr.sliceAt t (str l) (lo.map a.eval) (hi.map a.eval) none).run P w = .ok (str ((l.take n).drop m)) w := by
      have hx := str_extract l m n
      rcases hlo' with ⟨q1, rfl⟩ | ⟨k, q1⟩ <;> rcases hhi' with ⟨q2, rfl⟩ | ⟨k', q2⟩ <;>
        simp [q1, q2, Instr.sliceAt, run_underlying hu, Instr.slice, Instr.sliceBounds, Instr.sliceBound, asIntOf, str, size_str, g1, g2, hx]
    simp only [execOp, e1]
    simp [hr]
theorem op_sslice2 {x o o' : Operand} {l : List UInt8} {t : TypeId} {m n : Int} {k k' : IntKind} (hx : Opd E x = some (Is (str l))) (hu : P.underlying t = some .string) (hlo : Opd E o = some (okI k m)) (hhi : Opd E o' = some (okI k' n)) (h : 0 ≤ m ∧ m ≤ n ∧ n ≤ (l.length : Int)) :
    OpP P L E ⟨dst, .slice t x (some o) (some o') none, ty, pos, after, gd⟩ (Is (str ((l.take n.toNat).drop m.toNat))) := op_sslice hx hu (.inr ⟨o, k, rfl, hlo⟩) (.inr ⟨o', k', rfl, hhi⟩) h.1 h.2.1 h.2.2
theorem op_ssliceL {x o : Operand} {l : List UInt8} {t : TypeId} {m : Int} {k : IntKind} (hx : Opd E x = some (Is (str l))) (hu : P.underlying t = some .string) (hlo : Opd E o = some (okI k m)) (h : 0 ≤ m ∧ m ≤ (l.length : Int)) :
    OpP P L E ⟨dst, .slice t x (some o) none none, ty, pos, after, gd⟩ (Is (str (l.drop m.toNat))) := by
  have := op_sslice (P := P) (L := L) (dst := dst) (ty := ty) (pos := pos) (after := after) (gd := gd) (n := (l.length : Int)) hx hu (.inr ⟨o, k, rfl, hlo⟩) (.inl ⟨rfl, rfl⟩) h.1 h.2 (Int.le_refl _)
  simpa using this
theorem op_ssliceH {x o' : Operand} {l : List UInt8} {t : TypeId} {n : Int} {k' : IntKind} (hx : Opd E x = some (Is (str l))) (hu : P.underlying t = some .string) (hhi : Opd E o' = some (okI k' n)) (h : 0 ≤ n ∧ n ≤ (l.length : Int)) :
    OpP P L E ⟨dst, .slice t x none (some o') none, ty, pos, after, gd⟩ (Is (str (l.take n.toNat))) := by
  have := op_sslice (P := P) (L := L) (dst := dst) (ty := ty) (pos := pos) (after := after) (gd := gd) (m := 0) hx hu (.inl ⟨rfl, rfl⟩) (.inr ⟨o', k', rfl, hhi⟩) (Int.le_refl _) h.1 h.2
  simpa using this
theorem str_append (l m : List UInt8) : ByteArray.mk l.toArray ++ ByteArray.mk m.toArray = ByteArray.mk (l ++ m).toArray := by
  apply ByteArray.ext
  simp
theorem op_sadd {x y : Operand} {l m : List UInt8} {xt yt : TypeId} (hx : Opd E x = some (Is (str l))) (hy : Opd E y = some (Is (str m))) (h : (l.length : Int) + (m.length : Int) ≤ 9223372036854775807) : OpP P L E ⟨dst, .binOp .add xt x y yt, ty, pos, after, gd⟩ (Is (str (l ++ m))) :=
  OpP.same fun a w G S _ _ ho => by
    have h1 : a.eval x = str l := ho x (by simp [Op.operands]) _ hx
    have h2 : a.eval y = str m := ho y (by simp [Op.operands]) _ hy
    refine ⟨_, ?_, rfl⟩
    simp only [execOp, h1, h2]
    have hmax : IntKind.i64.max = 9223372036854775807 := by decide
    have hno : ¬ (((l.length + m.length : Nat) : Int) > 9223372036854775807) := by omega
    have hs := str_append l m
    simp only [eqGuard, binOp, str, Op.stringOp, size_str, hmax, if_neg hno, hs]
    simp
/-- The order of texts. -/
abbrev sless (l m : List UInt8) : Bool := Op.bytesLess l m
theorem str_toList (l : List UInt8) : (ByteArray.mk l.toArray).toList = l := by rw [ByteArray.toList_eq]
theorem op_slss {x y : Operand} {l m : List UInt8} {xt yt : TypeId} (hx : Opd E x = some (Is (str l))) (hy : Opd E y = some (Is (str m))) : OpP P L E ⟨dst, .binOp .lss xt x y yt, ty, pos, after, gd⟩ (Is (.bool (sless l m))) :=
  OpP.same fun a w G S _ _ ho => by
    have h1 : a.eval x = str l := ho x (by simp [Op.operands]) _ hx
    have h2 : a.eval y = str m := ho y (by simp [Op.operands]) _ hy
    refine ⟨_, ?_, rfl⟩
    simp only [execOp, h1, h2]
    simp [eqGuard, binOp, str, Op.stringOp, str_toList]
theorem op_sleq {x y : Operand} {l m : List UInt8} {xt yt : TypeId} (hx : Opd E x = some (Is (str l))) (hy : Opd E y = some (Is (str m))) : OpP P L E ⟨dst, .binOp .leq xt x y yt, ty, pos, after, gd⟩ (Is (.bool (sless l m || l == m))) :=
  OpP.same fun a w G S _ _ ho => by
    have h1 : a.eval x = str l := ho x (by simp [Op.operands]) _ hx
    have h2 : a.eval y = str m := ho y (by simp [Op.operands]) _ hy
    refine ⟨_, ?_, rfl⟩
    simp only [execOp, h1, h2]
    simp [eqGuard, binOp, str, Op.stringOp, str_toList]
theorem op_sgtr {x y : Operand} {l m : List UInt8} {xt yt : TypeId} (hx : Opd E x = some (Is (str l))) (hy : Opd E y = some (Is (str m))) : OpP P L E ⟨dst, .binOp .gtr xt x y yt, ty, pos, after, gd⟩ (Is (.bool (!(sless l m || l == m)))) :=
  OpP.same fun a w G S _ _ ho => by
    have h1 : a.eval x = str l := ho x (by simp [Op.operands]) _ hx
    have h2 : a.eval y = str m := ho y (by simp [Op.operands]) _ hy
    refine ⟨_, ?_, rfl⟩
    simp only [execOp, h1, h2]
    simp [eqGuard, binOp, str, Op.stringOp, str_toList]
theorem op_sgeq {x y : Operand} {l m : List UInt8} {xt yt : TypeId} (hx : Opd E x = some (Is (str l))) (hy : Opd E y = some (Is (str m))) : OpP P L E ⟨dst, .binOp .geq xt x y yt, ty, pos, after, gd⟩ (Is (.bool (!sless l m))) :=
  OpP.same fun a w G S _ _ ho => by
    have h1 : a.eval x = str l := ho x (by simp [Op.operands]) _ hx
    have h2 : a.eval y = str m := ho y (by simp [Op.operands]) _ hy
    refine ⟨_, ?_, rfl⟩
    simp only [execOp, h1, h2]
    simp [eqGuard, binOp, str, Op.stringOp, str_toList]

/-! ### structs by value -/
theorem run_partAt {t : TypeId} {cs : Array Value} {off : Nat} {v : Value} (w : World) (hag : aggB P t = some false) (h : cs[off]? = some v) : (part t cs off).run P w = .ok v w := by
  unfold part
  simp [run_isAgg hag, h]
/-- A field's type and offset. -/
def fieldAtT (P : Program) (s : TypeId) (i : Nat) : Option (TypeId × Nat) :=
  match P.underlying s with
  | some (.struct fields) => (fields[i]?).map fun f => (f.type, f.offset)
  | _ => none
theorem run_field {s ft : TypeId} {i off : Nat} (w : World) (h : fieldAtT P s i = some (ft, off)) (cs : Array Value) : (Instr.field s (.agg cs) i).run P w = (part ft cs off).run P w := by
  unfold fieldAtT at h
  cases hu : P.underlying s with
  | none => rw [hu] at h; cases h
  | some d =>
    rw [hu] at h
    cases d <;> try (simp at h)
    rename_i fields
    cases hf : fields[i]? with
    | none => rw [hf] at h; simp at h
    | some f =>
      rw [hf] at h
      simp at h
      obtain ⟨rfl, rfl⟩ := h
      simp only [Instr.field, Sem.run_bind, run_underlying hu, Result.andThen_ok, hf, asAgg, Sem.run_pure]
theorem op_field1 {x : Operand} {ts : List Ty} {s ft : TypeId} {i off : Nat} {T : Ty} (hx : Opd E x = some (TAgg ts)) (hf : fieldAtT P s i = some (ft, off)) (hag : aggB P ft = some false) (hT : ts[off]? = some T) : OpP P L E ⟨dst, .field s x i, ty, pos, after, gd⟩ T :=
  OpP.same fun a w G S _ _ ho => by
    obtain ⟨vs, h1, h2, h3⟩ := ho x (by simp [Op.operands]) _ hx
    have hlt := (List.getElem?_eq_some_iff.1 hT).1
    obtain ⟨u, hu⟩ : ∃ u, vs[off]? = some u := ⟨_, List.getElem?_eq_getElem (by omega)⟩
    refine ⟨u, ?_, (h3 off T u hT hu).1⟩
    simp only [execOp, h1]
    simp [run_field w hf, run_partAt w hag (show vs.toArray[off]? = some u by simpa using hu)]
theorem op_fieldA {x : Operand} {ts ts' : List Ty} {s ft : TypeId} {i off n : Nat} (hx : Opd E x = some (TAgg ts)) (hf : fieldAtT P s i = some (ft, off)) (hag : aggB P ft = some true) (hsz : (P.info? ft).map (·.size) = some n) (hT : (ts.drop off).take n = ts') (hn : ts'.length = n) : OpP P L E ⟨dst, .field s x i, ty, pos, after, gd⟩ (TAgg ts') :=
  OpP.same fun a w G S _ _ ho => by
    obtain ⟨vs, h1, h2, h3⟩ := ho x (by simp [Op.operands]) _ hx
    refine ⟨.agg ((vs.drop off).take n).toArray, ?_, _, rfl, ?_, ?_⟩
    · simp only [execOp, h1]
      simp [run_field w hf, part, run_isAgg hag, run_sizeOf hsz]
    · have := congrArg List.length hT
      simp only [List.length_take, List.length_drop] at this ⊢
      omega
    · intro j T u e1 e2
      subst hT
      rw [List.getElem?_take] at e1 e2
      split at e1
      · rw [List.getElem?_drop] at e1
        rw [if_pos (by assumption), List.getElem?_drop] at e2
        exact h3 _ _ _ e1 e2
      · cases e1

/-- Where a part of a struct or an array lies, and how many cells it has. -/
def placeOf (P : Program) (t : TypeId) (i : Nat) : Option (Nat × Nat) :=
  match P.underlying t with
  | some (.struct fields) => (fields[i]?).bind fun f => (P.info? f.type).map fun inf => (f.offset, inf.size)
  | some (.array _ e) => (P.info? e).map fun inf => (i * inf.size, inf.size)
  | _ => none
def placesOk (P : Program) (t : TypeId) : Bool :=
  match P.underlying t with
  | some (.struct fields) => fields.toList.all fun f => (P.info? f.type).isSome
  | some (.array _ e) => (P.info? e).isSome
  | _ => false
def segT (ts : List Ty) (off : Nat) (cts : List Ty) : List Ty := ts.take off ++ cts ++ ts.drop (off + cts.length)
def BuildOk (P : Program) (E : Env) (t : TypeId) : List (Nat × Operand) → List Ty → List Ty → Prop
  | [], ts, ts' => ts = ts'
  | (i, x) :: r, ts, ts' => ∃ T cts off, Opd E x = some T ∧ CellsOf T cts ∧ placeOf P t i = some (off, cts.length) ∧ Nat.ble (off + cts.length) ts.length = true ∧ BuildOk P E t r (segT ts off cts) ts'
theorem BuildOk.nil {t : TypeId} {ts : List Ty} : BuildOk P E t [] ts ts := rfl
theorem BuildOk.cons {t : TypeId} {i : Nat} {x : Operand} {r : List (Nat × Operand)} {ts ts1 ts' : List Ty} {T : Ty} {cts : List Ty} {off : Nat} (hx : Opd E x = some T) (hc : CellsOf T cts) (hp : placeOf P t i = some (off, cts.length)) (hl : Nat.ble (off + cts.length) ts.length = true) (hs : segT ts off cts = ts1) (k : BuildOk P E t r ts1 ts') : BuildOk P E t ((i, x) :: r) ts ts' :=
  ⟨T, cts, off, hx, hc, hp, hl, by rw [hs]; exact k⟩

/-- Cells that are as types say. -/
def CellsT (G : Imm) (cs : Array Value) (ts : List Ty) : Prop := cs.size = ts.length ∧ ∀ (j : Nat) (T : Ty), ts[j]? = some T → ∃ u, cs[j]? = some u ∧ T.p G u ∧ u.oneCell' = true
theorem CellsT.seg {G : Imm} {cs : Array Value} {ts cts : List Ty} {vs : List Value} {off : Nat} (h : CellsT G cs ts) (hl : vs.length = cts.length) (hv : ∀ (j : Nat) (U : Ty) (u : Value), cts[j]? = some U → vs[j]? = some u → U.p G u ∧ u.oneCell' = true) (hle : off + cts.length ≤ ts.length) :
    CellsT G ((vs.zipIdx 0).foldl (fun cs (x : Value × Nat) => cs.setIfInBounds (off + x.2) x.1) cs) (segT ts off cts) := by
  obtain ⟨g1, g2⟩ := foldl_set off vs 0 cs
  obtain ⟨h1, h2⟩ := h
  refine ⟨by rw [g1, h1, segT]; simp; omega, fun j T hj => ?_⟩
  rw [g2 j]
  unfold segT at hj
  rw [List.append_assoc, List.getElem?_append] at hj
  simp only [List.length_take, Nat.add_zero] at hj ⊢
  by_cases hjo : j < off
  · rw [if_pos (by omega), List.getElem?_take, if_pos hjo] at hj
    rw [if_neg (by omega)]
    exact h2 j T hj
  · rw [if_neg (by omega), show min off ts.length = off from by omega, List.getElem?_append] at hj
    by_cases hjn : j - off < cts.length
    · rw [if_pos hjn] at hj
      rw [if_pos (by omega)]
      obtain ⟨u, hu⟩ : ∃ u, vs[j - off]? = some u := ⟨_, List.getElem?_eq_getElem (by omega)⟩
      exact ⟨u, hu, hv _ _ _ hj hu⟩
    · rw [if_neg hjn, List.getElem?_drop] at hj
      rw [if_neg (by omega)]
      obtain ⟨u, b⟩ := h2 _ T hj
      exact ⟨u, by rw [← b.1]; congr 1; omega, b.2⟩
theorem BuildOk.fill {t : TypeId} {G : Imm} {a : Act} (place : Nat → Option (Nat × Nat)) (hplace : ∀ i p, placeOf P t i = some p → place i = some p) : ∀ (ps : List (Nat × Operand)) (ts ts' : List Ty) (cs : Array Value), BuildOk P E t ps ts ts' → (∀ q ∈ ps, ∀ T, Opd E q.2 = some T → T.p G (a.eval q.2)) → CellsT G cs ts →
    ∃ cs', Instr.fill place cs (ps.map fun q => (q.1, a.eval q.2)) = some cs' ∧ CellsT G cs' ts'
  | [], ts, ts', cs, h, _, hc => by cases h; exact ⟨cs, rfl, hc⟩
  | (i, x) :: r, ts, ts', cs, ⟨T, cts, off, hx, hcT, hp, hl, k⟩, ho, hc => by
    have hv := ho (i, x) (by simp) T hx
    obtain ⟨h1, h2⟩ := hcT G _ hv
    have hl' := Nat.le_of_ble_eq_true hl
    have hsize : (a.eval x).cells.size = cts.length := by simpa using h1
    have hseg := hc.seg (vs := (a.eval x).cells.toList) (off := off) h1 h2 hl'
    obtain ⟨cs', h3, h4⟩ := BuildOk.fill place hplace r _ ts' _ k (fun q hq => ho q (by simp [hq])) hseg
    refine ⟨cs', ?_, h4⟩
    simp only [List.map_cons, Instr.fill, hplace i _ hp]
    rw [if_neg (by simp only [hsize, hc.1]; simp; omega)]
    have hz : (a.eval x).cells.zipIdx.foldl (fun cs (y : Value × Nat) => cs.setIfInBounds (off + y.2) y.1) cs = ((a.eval x).cells.toList.zipIdx 0).foldl (fun cs (y : Value × Nat) => cs.setIfInBounds (off + y.2) y.1) cs := by
      rw [← Array.foldl_toList]; simp
    rw [hz]; exact h3
theorem run_places {fields : Array Field} (w : World) (h : (fields.toList.all fun f => (P.info? f.type).isSome) = true) : ∃ pl : Array (Nat × Nat), (fields.mapM fun f : Field => do pure (f.offset, ← sizeOf f.type) : Sem _).run P w = .ok pl w ∧ ∀ (i : Nat) p, (fields[i]?).bind (fun f : Field => (P.info? f.type).map fun inf => (f.offset, inf.size)) = some p → pl[i]? = some p := by
  have key : ∀ l : List Field, (l.all fun f => (P.info? f.type).isSome) = true → ∃ pl : List (Nat × Nat), (List.mapM (fun f : Field => do pure (f.offset, ← sizeOf f.type)) l : Sem _).run P w = .ok pl w ∧ ∀ (i : Nat) p, (l[i]?).bind (fun f : Field => (P.info? f.type).map fun inf => (f.offset, inf.size)) = some p → pl[i]? = some p := by
    intro l
    induction l with
    | nil => intro _; exact ⟨[], by simp, by simp⟩
    | cons f l ih =>
      intro h
      simp only [List.all_cons, Bool.and_eq_true] at h
      obtain ⟨pl, h1, h2⟩ := ih h.2
      obtain ⟨inf, hi⟩ := Option.isSome_iff_exists.1 h.1
      refine ⟨(f.offset, inf.size) :: pl, ?_, ?_⟩
      · simp only [List.mapM_cons, Sem.run_bind, run_sizeOf (P := P) (t := f.type) (n := inf.size) (by rw [hi]; rfl) w, Result.andThen_ok, Sem.run_pure, h1]
      · intro i p e
        cases i with
        | zero => simp [hi] at e; simp [e]
        | succ i => simpa using h2 i p (by simpa using e)
  obtain ⟨pl, h1, h2⟩ := key fields.toList h
  refine ⟨pl.toArray, ?_, fun i p e => by simpa using h2 i p (by simpa using e)⟩
  rw [← Array.toArray_toList (xs := fields), List.mapM_toArray, Sem.run_map, h1]
  rfl
theorem op_build {t : TypeId} {parts : Array (Nat × Operand)} {z : Value} {zs : List Value} {ts ts' : List Ty} (hz : (P.info? t).map (·.zero) = some (some z)) (hc : z.cells.toList = zs) (ht : LitT zs ts) (hok : placesOk P t = true) (hb : BuildOk P E t parts.toList ts ts') : OpP P L E ⟨dst, .build t parts, ty, pos, after, gd⟩ (TAgg ts') :=
  OpP.same fun a w G S _ _ ho => by
    obtain ⟨l1, l2⟩ := LitT.at zs ts ht
    have hcells : CellsT G z.cells ts := by
      refine ⟨by rw [← Array.length_toList, hc, l1], fun j T hj => ?_⟩
      obtain ⟨u, b1, b2, b3⟩ := l2 j T hj
      exact ⟨u, by rw [← hc] at b1; simpa using b1, T.mono (fun _ _ _ h => by cases h) b2, b3⟩
    have hops : ∀ q ∈ parts.toList, ∀ T, Opd E q.2 = some T → T.p G (a.eval q.2) := fun q hq T hT => ho q.2 (by
      have hq' : q.2 ∈ partsOf parts := List.mem_map.2 ⟨q, hq, rfl⟩
      simp only [Op.operands]
      simpa [partsOf] using hq') T hT
    have hpl : (parts.map fun (i, x) => (i, a.eval x)).toList = parts.toList.map fun q => (q.1, a.eval q.2) := by simp
    have fin : ∀ (cs' : Array Value), CellsT G cs' ts' → (TAgg ts').p G (.agg cs') := fun cs' h => ⟨cs'.toList, by simp, by simpa using h.1, fun j T u e1 e2 => by
      obtain ⟨u', b1, b2⟩ := h.2 j T e1
      have e3 : cs'[j]? = some u := by simpa using e2
      rw [b1] at e3; cases e3; exact b2⟩
    unfold placesOk at hok
    cases hu : P.underlying t with
    | none => rw [hu] at hok; cases hok
    | some d =>
      rw [hu] at hok
      cases d <;> try (simp at hok; done)
      · rename_i n e
        obtain ⟨inf, hinf⟩ := Option.isSome_iff_exists.1 hok
        obtain ⟨cs', h1, h2⟩ := hb.fill (a := a) (G := G) (fun i => some (i * inf.size, inf.size)) (fun i p e' => by
          unfold placeOf at e'; rw [hu] at e'; simpa [hinf] using e') _ _ _ _ hops hcells
        refine ⟨.agg cs', ?_, fin _ h2⟩
        rw [← hpl] at h1
        simp only [execOp]
        simp only [Instr.build, Sem.run_bind, run_zeroValue hz, Result.andThen_ok, run_underlying hu, run_sizeOf (P := P) (t := e) (n := inf.size) (by rw [hinf]; rfl), h1, Sem.run_pure]
      · rename_i fields
        obtain ⟨pl, p1, p2⟩ := run_places (P := P) w hok
        obtain ⟨cs', h1, h2⟩ := hb.fill (a := a) (G := G) (fun i => pl[i]?) (fun i p e' => by
          unfold placeOf at e'; rw [hu] at e'; exact p2 i p e') _ _ _ _ hops hcells
        refine ⟨.agg cs', ?_, fin _ h2⟩
        rw [← hpl] at h1
        simp only [execOp]
        simp only [Instr.build, Sem.run_bind, run_zeroValue hz, Result.andThen_ok, run_underlying hu, p1, h1, Sem.run_pure]
end
end Go.Vk
set_option linter.unusedVariables false
namespace Go.Vk
section
variable {P : Program} {L : List Res} {E : Env} {dst : Option Tmp} {ty : TypeId} {pos : String} {after : Array Edge} {gd : Option (Nat × Bool)}
/-- []byte(s). -/
theorem op_bytesOf {x : Operand} {l : List UInt8} {st dt e : TypeId} (hx : Opd E x = some (Is (str l))) (hs : P.underlying st = some .string) (hd : P.underlying dt = some (.slice e)) (he : P.underlying e = some (.int .u8)) (hl : (l.length : Int) ≤ 9223372036854775807) :
    OpP P L E ⟨dst, .convert st dt x, ty, pos, after, gd⟩ (TBytes l) :=
  OpP.laid fun a w G S hsat _ ho => by
    have h1 : a.eval x = str l := ho x (by simp [Op.operands]) _ hx
    have hr := run_bytes_of_string (P := P) w st dt e (ByteArray.mk l.toArray) hs hd he
    rw [size_str] at hr
    have hge := grownCap_ge w l.length 0 e
    have hcm := grownCap_le_maxLen w l.length 0 e (by simp only [maxLen]; omega)
    obtain ⟨hext, hsl, _⟩ := fresh_sl (f := cB) (sz := 1) (l := l) (vs := l.map fun c => Value.int .u8 (c.toNat : Int)) (cap := grownCap w l.length 0 e) (e := e)
      (cells := bytesRow (ByteArray.mk l.toArray) (grownCap w l.length 0 e)) (fr := ((bytesRow (ByteArray.mk l.toArray) (grownCap w l.length 0 e)).size, (bytesRow (ByteArray.mk l.toArray) (grownCap w l.length 0 e)).size + 1))
      (w1 := w.drew.alloc (.cells (bytesRow (ByteArray.mk l.toArray) (grownCap w l.length 0 e)) e ((bytesRow (ByteArray.mk l.toArray) (grownCap w l.length 0 e)).size, (bytesRow (ByteArray.mk l.toArray) (grownCap w l.length 0 e)).size + 1)))
      hsat rfl rfl rfl rfl (by simp [bytesRow]) hge hcm (by simp) (fun y _ => rfl) (fun i y hy j T hj => by
        cases j with
        | succ j => simp [cB] at hj
        | zero =>
          simp [cB] at hj; subst hj
          exact ⟨.int .u8 (y.toNat : Int), by simp [hy], rfl, rfl⟩)
    refine ⟨_, _, _, ?_, hext, hsl false (fun e => by cases e)⟩
    simp only [execOp, h1, str]
    simp [hr]

/-! ### equality of structs -/
/-- Two fields of one cell: whether they are one. -/
structure FEq (P : Program) (ft : TypeId) (T U : Ty) (b : Bool) : Prop where
  ag : aggB P ft = some false
  eq : ∀ G u v (w : World) (d : Nat), T.p G u → U.p G v → (Op.equalIn (d + 1) ft u v).run P w = .ok b w
theorem FEq.int {ft : TypeId} {k k' : IntKind} {m n : Int} (hu : P.underlying ft = some (.int k')) : FEq P ft (okI k m) (okI k n) (decide (m = n)) :=
  ⟨by simp [aggB, hu], fun G u v w d h1 h2 => by cases h1; cases h2; rw [run_equalIn_int w d ft k k' m n hu]; rfl⟩
theorem FEq.bool {ft : TypeId} {m n : Bool} (hu : P.underlying ft = some .bool) : FEq P ft (Is (.bool m)) (Is (.bool n)) (m == n) :=
  ⟨by simp [aggB, hu], fun G u v w d h1 h2 => by cases h1; cases h2; exact run_equalIn_bool' w d ft m n hu⟩
theorem FEq.str {ft : TypeId} {m n : List UInt8} (hu : P.underlying ft = some .string) : FEq P ft (Is (str m)) (Is (str n)) (decide (m = n)) :=
  ⟨by simp [aggB, hu], fun G u v w d h1 h2 => by
    cases h1; cases h2
    have := run_equalIn_string (P := P) w d ft (ByteArray.mk m.toArray) (ByteArray.mk n.toArray) hu
    rw [str_toList, str_toList] at this
    rw [show Vk.str m = Value.string (ByteArray.mk m.toArray) from rfl, show Vk.str n = Value.string (ByteArray.mk n.toArray) from rfl, this]
    by_cases h : m = n <;> simp [h]⟩
def FEqs (P : Program) : List Field → Nat → List Ty → List Ty → List Bool → Prop
  | [], _, [], [], [] => True
  | f :: fs, j, T :: ts, U :: us, b :: bs => (f.name ≠ "_" ∧ f.offset = j) ∧ FEq P f.type T U b ∧ FEqs P fs (j + 1) ts us bs
  | _, _, _, _, _ => False
theorem FEqs.nil {j : Nat} : FEqs P [] j [] [] [] := trivial
theorem FEqs.cons {f : Field} {fs : List Field} {j : Nat} {T U : Ty} {ts us : List Ty} {b : Bool} {bs : List Bool} (h1 : (f.name == "_") = false) (h2 : f.offset = j) (h : FEq P f.type T U b) (k : FEqs P fs (j + 1) ts us bs) : FEqs P (f :: fs) j (T :: ts) (U :: us) (b :: bs) := ⟨⟨fun e => by rw [e] at h1; simp at h1, h2⟩, h, k⟩
def allB : List Bool → Bool
  | [] => true
  | [b] => b
  | b :: bs => b && allB bs
theorem allB_cons (b : Bool) (bs : List Bool) : allB (b :: bs) = (b && allB bs) := by cases bs <;> simp [allB]
theorem FEqs.run {G : Imm} {w : World} {d : Nat} {xs ys : Array Value} : ∀ (fs : List Field) (j : Nat) (ts us : List Ty) (bs : List Bool), FEqs P fs j ts us bs →
    (∀ (i : Nat) (T : Ty), ts[i]? = some T → ∃ u, xs[j + i]? = some u ∧ T.p G u) → (∀ (i : Nat) (T : Ty), us[i]? = some T → ∃ u, ys[j + i]? = some u ∧ T.p G u) → (Op.eqFields (d + 1) xs ys fs).run P w = .ok (allB bs) w
  | [], _, [], [], [], _, _, _ => by simp [Op.eqFields, allB]
  | f :: fs, j, T :: ts, U :: us, b :: bs, ⟨⟨h1, h2⟩, h, k⟩, hx, hy => by
    obtain ⟨u, hu, hTu⟩ := hx 0 T rfl
    obtain ⟨v, hv, hUv⟩ := hy 0 U rfl
    have ih := FEqs.run (w := w) (d := d) fs (j + 1) ts us bs k (fun i T' e => by
      obtain ⟨u', a, b⟩ := hx (i + 1) T' (by simpa using e)
      exact ⟨u', by rw [show j + 1 + i = j + (i + 1) from by omega]; exact a, b⟩) (fun i T' e => by
      obtain ⟨u', a, b⟩ := hy (i + 1) T' (by simpa using e)
      exact ⟨u', by rw [show j + 1 + i = j + (i + 1) from by omega]; exact a, b⟩)
    simp only [Nat.add_zero] at hu hv
    subst h2
    rw [allB_cons]
    simp only [Op.eqFields, if_pos h1, Sem.run_bind, run_partAt w h.ag hu, run_partAt w h.ag hv, Result.andThen_ok, h.eq G u v w d hTu hUv]
    cases b
    · simp
    · simp [ih]
theorem run_eqAgg {t : TypeId} {fs : List Field} {ts us : List Ty} {bs : List Bool} {G : Imm} {w : World} {xs ys : List Value} (hu : P.underlying t = some (.struct (P.fieldsOf t))) (hp : P.stoodInHeld t = false) (hfs : (P.fieldsOf t).toList = fs) (h : FEqs P fs 0 ts us bs)
    (hx : (TAgg ts).p G (.agg xs.toArray)) (hy : (TAgg us).p G (.agg ys.toArray)) : (Op.equalIn 10000 t (.agg xs.toArray) (.agg ys.toArray)).run P w = .ok (allB bs) w := by
  have hc : ∀ (ts : List Ty) (xs : List Value), (TAgg ts).p G (.agg xs.toArray) → ∀ (i : Nat) (T : Ty), ts[i]? = some T → ∃ u, xs.toArray[0 + i]? = some u ∧ T.p G u := by
    rintro ts xs ⟨vs, e, hl, hv⟩ i T hi
    have hilt := (List.getElem?_eq_some_iff.1 hi).1
    have : xs = vs := by simpa using e
    subst this
    obtain ⟨u, hu⟩ : ∃ u, xs[i]? = some u := ⟨_, List.getElem?_eq_getElem (by omega)⟩
    exact ⟨u, by simpa using hu, (hv i T u hi hu).1⟩
  rw [show (10000 : Nat) = 9998 + 1 + 1 from rfl, run_equalIn_struct w (9998 + 1) t _ _ hu hp, hfs]
  exact FEqs.run fs 0 ts us bs h (hc ts xs hx) (hc us ys hy)
theorem op_eqAgg {x y : Operand} {ts us : List Ty} {bs : List Bool} {t yt : TypeId} {fs : List Field} (hx : Opd E x = some (TAgg ts)) (hy : Opd E y = some (TAgg us)) (hu : P.underlying t = some (.struct (P.fieldsOf t))) (hp : P.stoodInHeld t = false) (hm : P.eqGuardType P.depth t = false) (hfs : (P.fieldsOf t).toList = fs) (h : FEqs P fs 0 ts us bs) :
    OpP P L E ⟨dst, .binOp .eql t x y yt, ty, pos, after, gd⟩ (Is (.bool (allB bs))) :=
  OpP.same fun a w G S _ _ ho => by
    have h1 := ho x (by simp [Op.operands]) _ hx
    have h2 := ho y (by simp [Op.operands]) _ hy
    obtain ⟨xs, e1, _⟩ := id h1
    obtain ⟨ys, e2, _⟩ := id h2
    rw [e1] at h1
    rw [e2] at h2
    refine ⟨.bool (allB bs), ?_, rfl⟩
    have hr := run_eqAgg (w := w) hu hp hfs h h1 h2
    simp only [execOp, e1, e2, Sem.run_bind, run_eqGuard_agg w .eql t x y _ _ hm, Result.andThen_ok, run_eql_struct, hr, Sem.run_pure]
theorem op_neAgg {x y : Operand} {ts us : List Ty} {bs : List Bool} {t yt : TypeId} {fs : List Field} (hx : Opd E x = some (TAgg ts)) (hy : Opd E y = some (TAgg us)) (hu : P.underlying t = some (.struct (P.fieldsOf t))) (hp : P.stoodInHeld t = false) (hm : P.eqGuardType P.depth t = false) (hfs : (P.fieldsOf t).toList = fs) (h : FEqs P fs 0 ts us bs) :
    OpP P L E ⟨dst, .binOp .neq t x y yt, ty, pos, after, gd⟩ (Is (.bool (!allB bs))) :=
  OpP.same fun a w G S _ _ ho => by
    have h1 := ho x (by simp [Op.operands]) _ hx
    have h2 := ho y (by simp [Op.operands]) _ hy
    obtain ⟨xs, e1, _⟩ := id h1
    obtain ⟨ys, e2, _⟩ := id h2
    rw [e1] at h1
    rw [e2] at h2
    refine ⟨.bool (!allB bs), ?_, rfl⟩
    have hr := run_eqAgg (w := w) hu hp hfs h h1 h2
    simp only [execOp, e1, e2, Sem.run_bind, run_eqGuard_agg w .neq t x y _ _ hm, Result.andThen_ok, run_neq_struct, hr, Sem.run_pure]

/-! ### functions as values -/
def FnP (f : FuncId) (Cs : List Ty) (G : Imm) (v : Value) : Prop := ∃ vs : List Value, v = .func (.func f) #[] vs.toArray ∧ ArgsT G Cs vs
theorem ArgsT.mono {G G' : Imm} (h : Imm.le G G') : ∀ {A : List Ty} {vs : List Value}, ArgsT G A vs → ArgsT G' A vs
  | [], [], _ => trivial
  | T :: A, v :: vs, ⟨h1, h2⟩ => ⟨T.mono h h1, ArgsT.mono h h2⟩
  | [], _ :: _, h' => h'.elim
  | _ :: _, [], h' => h'.elim
theorem ArgsT.append {G : Imm} : ∀ {A B : List Ty} {vs us : List Value}, ArgsT G A vs → ArgsT G B us → ArgsT G (A ++ B) (vs ++ us)
  | [], _, [], _, _, h => h
  | _ :: _, _, _ :: _, _, ⟨h1, h2⟩, h => ⟨h1, ArgsT.append h2 h⟩
  | [], _, _ :: _, _, h', _ => h'.elim
  | _ :: _, _, [], _, h', _ => h'.elim
/-- A function's value: which function, and what it has captured. -/
def TFn (f : FuncId) (Cs : List Ty) : Ty := ⟨FnP f Cs, fun h ⟨vs, e, k⟩ => ⟨vs, e, k.mono h⟩⟩
theorem Sub.fn (f : FuncId) : Sub (Is (.func (.func f) #[] #[])) (TFn f []) := fun G v h => by cases h; exact ⟨[], rfl, trivial⟩
theorem CellsOf.fn (f : FuncId) (Cs : List Ty) : CellsOf (TFn f Cs) [TFn f Cs] := .one fun G v ⟨vs, e, _⟩ => by subst e; exact ⟨rfl, rfl⟩
theorem One.fn (f : FuncId) (Cs : List Ty) : One (TFn f Cs) := fun _ _ ⟨_, e, _⟩ => by rw [e]; rfl
theorem op_makeFunc {f : FuncId} {xs : List Operand} {Cs : List Ty} (hx : Opds E xs Cs) : OpP P L E ⟨dst, .makeFunc (.func f) #[] xs.toArray, ty, pos, after, gd⟩ (TFn f Cs) :=
  OpP.same fun a w G S _ _ ho => by
    have h := Opds.args (G := G) (a := a) xs Cs hx (fun x hx' => ho x (by simp [Op.operands, hx']))
    exact ⟨.func (.func f) #[] (xs.map a.eval).toArray, by simp [execOp, Instr.makeFunc], _, rfl, h⟩
theorem exCallV {f : FuncId} {A Cs : List Ty} {T : Ty} {t : Tmp} {xs : List Operand} {tys : Array TypeId} {c : Prop} {K : Ty → Prop} (ht : E.get t = some (TFn f Cs)) (hx : Opds E xs A) (hf : c → CFn P f (A ++ Cs) T) (k : K T) :
    ∃ T, (c → OpP P L E ⟨dst, .call { callee := .value (.tmp t), args := xs.toArray, argTypes := tys }, ty, pos, after, gd⟩ T) ∧ K T := by
  refine ⟨T, fun hc => ?_, k⟩
  intro a w G S hs ho htt K Q k
  have hf := hf hc
  obtain ⟨vs, e, hvs⟩ := htt (.tmp t) (by simp [Op.operands, Call.operands]) _ ht
  have hargs := Opds.args (G := G) (a := a) xs A hx (fun x hx' => htt x (by simp [Op.operands, Call.operands, hx']))
  have hrun : (execOp a.eval (⟨dst, .call { callee := .value (.tmp t), args := xs.toArray, argTypes := tys }, ty, pos, after, gd⟩ : Oper)).run P w = .ok (.enter f ((xs.map a.eval) ++ vs).toArray) w := by
    simp [execOp, resolve, Deferred.ofValue, e, invoke, hf.enter]
  simp only [Oper.wp, hrun, Oper.upon_enter]
  refine (hf.calls _ w G _ hs (Owns.none G w) (hargs.append hvs)).mono ?_
  rintro e w' ⟨v, G', S', rfl, hext, -, -, hT⟩
  exact k v w' G' ⟨hext.sat, hext.le, hext.os, hext.tape, hext.output, hext.size, fun b hb _ => hext.blk b hb (fun ⟨_, h⟩ => h)⟩ hT

/-! ### least and greatest -/
theorem op_min {x y : Operand} {k : IntKind} {m n : Int} {tys : Array TypeId} (hx : Opd E x = some (okI k m)) (hy : Opd E y = some (okI k n)) : OpP P L E ⟨dst, .call { callee := .builtin .min, args := #[x, y], argTypes := tys }, ty, pos, after, gd⟩ (okI k (if n < m then n else m)) :=
  OpP.same fun a w G S _ _ ho => by
    have h1 : a.eval x = .int k m := ho x (by simp [Op.operands, Call.operands]) _ hx
    have h2 : a.eval y = .int k n := ho y (by simp [Op.operands, Call.operands]) _ hy
    exact ⟨_, by simp [execOp, resolve, invoke, builtin, Builtin.min_, Builtin.min2, h1, h2], rfl⟩
theorem op_max {x y : Operand} {k : IntKind} {m n : Int} {tys : Array TypeId} (hx : Opd E x = some (okI k m)) (hy : Opd E y = some (okI k n)) : OpP P L E ⟨dst, .call { callee := .builtin .max, args := #[x, y], argTypes := tys }, ty, pos, after, gd⟩ (okI k (if m < n then n else m)) :=
  OpP.same fun a w G S _ _ ho => by
    have h1 : a.eval x = .int k m := ho x (by simp [Op.operands, Call.operands]) _ hx
    have h2 : a.eval y = .int k n := ho y (by simp [Op.operands, Call.operands]) _ hy
    exact ⟨_, by simp [execOp, resolve, invoke, builtin, Builtin.max_, Builtin.max2, h1, h2], rfl⟩
end
end Go.Vk
set_option linter.unusedVariables false
namespace Go.Vk
/-- The variables of these slots are written. -/
structure Mut (ds : List Nat) : Prop where
  t : True
theorem Mut.mk' (ds : List Nat) : Mut ds := ⟨trivial⟩
theorem Sub.agg {ts ts' : List Ty} (h : TsSub ts ts') : Sub (TAgg ts) (TAgg ts') := by
  rintro G v ⟨vs, rfl, hl, k⟩
  obtain ⟨k1, k2⟩ := TsSub.get h
  exact ⟨vs, rfl, by omega, fun j U u e1 e2 => by
    obtain ⟨T, e3, e4⟩ := k2 j U e1
    exact ⟨e4 _ _ (k j T u e3 e2).1, (k j T u e3 e2).2⟩⟩
theorem Sub.nilO {α : Type} {sz : Nat} {f : α → List Ty} {l : List α} (h : [] = l) : Sub (Is (.slice none 0 0)) (TAnd (Is (.slice none 0 0)) (TSl sz f l)) := fun G v k => ⟨k, Sub.nil' h G v k⟩
theorem LitT.nil : LitT [] [] := trivial
theorem LitT.is {v : Value} {vs : List Value} {ts : List Ty} (h : v.oneCell' = true) (k : LitT vs ts) : LitT (v :: vs) (Is v :: ts) := ⟨⟨rfl, h⟩, k⟩
theorem LitT.s0 {v : Value} {vs : List Value} {ts : List Ty} (h : v = str []) (k : LitT vs ts) : LitT (v :: vs) (Is (str []) :: ts) := ⟨⟨h, by rw [h]; rfl⟩, k⟩
theorem isLitT {zs : List Value} {ts : List Ty} (h : LitT zs ts) : LitT zs ts := h
theorem isDist {is : List Nat} (h : distinct is = true) : distinct is = true := h
theorem isTo {L L' : List Res} (h : To L L') : To L L' := h
section
variable {F : FCtx} {E : Env} {L L' : List Res} {Q : Exit → Act → World → Prop} {ops : Array Oper} {rest : List Oper} {d : Nat} {ty : TypeId} {pos : String} {after : Array Edge}
theorem op_appendS {P : Program} {dst : Option Tmp} {gd : Option (Nat × Bool)} {x y : Operand} {α : Type} {sz by_ : Nat} {f : α → List Ty} {l m : List α} {t e : TypeId} {z v : Value} {U : Ty} (i : Nat) (hx : Opd E x = some (TAnd (Is v) (TSl sz f l))) (hy : Opd E y = some U) (hs : Sub U (TSl sz f m)) (hL : L[i]? = some (ownSl v sz e))
    (hu : P.underlying t = some (.slice e)) (hinf : (P.info? e).map (fun i => (i.zero, i.size, i.bytes)) = some (some z, sz, by_)) (hz : z.cells.size = sz) (hb : (l.length + m.length) * by_ ≤ 140737488355328) (hm : l.length + m.length ≤ maxLen) :
    OpC P L E ⟨dst, .call { callee := .builtin .append, args := #[x, y], argTypes := #[t, t] }, ty, pos, after, gd⟩ (fun v' => TAnd (Is v') (TSl sz f (l ++ m))) (fun v' => L.set i (ownSl v' sz e)) := by
  intro a w G S hsat ho ht K Q k
  have hxx := ht x (by simp [Op.operands, Call.operands]) _ hx
  have hyy := hs _ _ (ht y (by simp [Op.operands, Call.operands]) _ hy)
  have hxv : a.eval x = v := hxx.1
  obtain ⟨v', w', G', S', hr, h1, h2, h3, h4⟩ := run_append_res (P := P) (tyy := ty) hu hinf hz hsat ho hL (by rw [← hxv]; exact hxx.2) hyy hb hm
  have : (execOp a.eval (⟨dst, .call { callee := .builtin .append, args := #[x, y], argTypes := #[t, t] }, ty, pos, after, gd⟩ : Oper)).run P w = .ok (.value v') w' := by
    simp only [execOp, resolve]
    simp [invoke, builtin, hxv, hr]
  simp only [Oper.wp, this, Oper.upon_value]
  exact k v' w' G' S' h1 h2 h3 ⟨rfl, h4⟩
theorem PickL.own {is : List Nat} {B : List Res} {g : Nat} {e : TypeId} {ts ts' : List Ty} (i : Nat) (h : L[i]? = some (ownP g e ts)) (hs : TsSub ts ts') (k : PickL L is B) : PickL L (i :: is) (ownP g e ts' :: B) := .cons i h (RSub.own hs) k
theorem PickL.any {is : List Nat} {B : List Res} {R : Res} (i : Nat) (h : L[i]? = some R) (k : PickL L is B) : PickL L (i :: is) (R :: B) := .cons i h (RSub.refl _) k
theorem PickL.sl {is : List Nat} {B : List Res} {v : Value} {sz : Nat} {e : TypeId} (i : Nat) (h : L[i]? = some (ownSl v sz e)) (k : PickL L is B) : PickL L (i :: is) (ownSl v sz e :: B) := .cons i h (RSub.refl _) k
end
section
variable {P : Program} {L L' : List Res} {E : Env} {dst : Option Tmp} {ty : TypeId} {pos : String} {after : Array Edge} {gd : Option (Nat × Bool)}
theorem oc_storeO {x y : Operand} {g o : Nat} {e : TypeId} {ts ts' : List Ty} {T : Ty} {t : TypeId} (i : Nat) (hx : Opd E x = some (Is (pAt g o))) (hL : L[i]? = some (ownP g e ts)) (hy : Opd E y = some T) (h1c : One T) (hsz : (P.info? t).map (·.size) = some 1) (hlt : Nat.blt o ts.length = true) (ht : ts.set o T = ts') (hL' : L.set i (ownP g e ts') = L') :
    OpC P L E ⟨dst, .store t x y, ty, pos, after, gd⟩ (fun v => Is v) (fun _ => L') := op_storeO i hx hy h1c hL hsz hlt ht hL'
theorem oc_storeAO {x y : Operand} {g o n : Nat} {e : TypeId} {ts ts' us : List Ty} {t : TypeId} (i : Nat) (hx : Opd E x = some (Is (pAt g o))) (hL : L[i]? = some (ownP g e ts)) (hy : Opd E y = some (TAgg us)) (hsz : (P.info? t).map (·.size) = some n) (hn : us.length = n) (hlt : Nat.ble (o + n) ts.length = true) (ht : ts.take o ++ us ++ ts.drop (o + n) = ts') (hL' : L.set i (ownP g e ts') = L') :
    OpC P L E ⟨dst, .store t x y, ty, pos, after, gd⟩ (fun v => Is v) (fun _ => L') := op_storeAO i hx hy hL hsz hn hlt ht hL'
theorem oc_alloc {e : TypeId} {z : Value} {zs : List Value} {ts : List Ty} {L' : Nat → List Res} (hz : (P.info? e).map (·.zero) = some (some z)) (hc : z.cells.toList = zs) (ht : LitT zs ts) (hL' : ∀ g, L ++ [ownP g e ts] = L' g) :
    OpC P L E ⟨dst, .alloc e, ty, pos, after, gd⟩ (fun v => Is (pAt (blk v) 0)) (fun v => L' (blk v)) := by
  have := op_alloc (P := P) (L := L) (E := E) (dst := dst) (ty := ty) (pos := pos) (after := after) (gd := gd) hz hc ht
  simpa only [hL'] using this
theorem oc_boxM {x : Operand} {T : Ty} {e : TypeId} {ts : List Ty} {L' : Nat → List Res} {ds : List Nat} {d : Nat} (hm : Mut ds) (hmd : ds.any (Nat.beq d) = true) (hx : Opd E x = some T) (hc : CellsOf T ts) (hL' : ∀ g, L ++ [ownP g e ts] = L' g) :
    OpC P L E ⟨some d, .box e x, ty, pos, after, gd⟩ (fun v => Is (pAt (blk v) 0)) (fun v => L' (blk v)) := by
  have := op_box (P := P) (L := L) (E := E) (e := e) (dst := some d) (ty := ty) (pos := pos) (after := after) (gd := gd) hx hc
  simpa only [hL'] using this
theorem oc_callR {f : FuncId} {A : List Ty} {R : Res} {Li : List Res} {T : Ty} {Lo : List Res} {xs : List Operand} {tys : Array TypeId} {is : List Nat} (hf : CallsC P f A (R :: Li) (fun _ => T) (fun _ => Lo)) (zx : OpdsS E xs A) (zp : PickL L is (R :: Li)) (zd : distinct is = true) (zl : Nat.ble is.length Lo.length = true) (zL : updL L is Lo = L') :
    OpC P L E ⟨dst, .call { callee := .value (.func f), args := xs.toArray, argTypes := tys }, ty, pos, after, gd⟩ (fun _ => T) (fun _ => L') := by
  have := op_callR (P := P) (L := L) (E := E) (dst := dst) (ty := ty) (pos := pos) (after := after) (gd := gd) (tys := tys) hf zx zp zd (fun _ => Nat.le_of_ble_eq_true zl)
  simpa only [zL] using this
/-- A call that hands back a pointer to a new block. -/
theorem oc_callN {f : FuncId} {A : List Ty} {e : TypeId} {ts : List Ty} {xs : List Operand} {tys : Array TypeId} {L' : Nat → List Res} (hf : CallsC P f A [] (fun v => Is (pAt (blk v) 0)) (fun v => [ownP (blk v) e ts])) (zx : OpdsS E xs A) (zL : ∀ g, L ++ [ownP g e ts] = L' g) :
    OpC P L E ⟨dst, .call { callee := .value (.func f), args := xs.toArray, argTypes := tys }, ty, pos, after, gd⟩ (fun v => Is (pAt (blk v) 0)) (fun v => L' (blk v)) := by
  have := op_callR (P := P) (L := L) (E := E) (dst := dst) (ty := ty) (pos := pos) (after := after) (gd := gd) (tys := tys) (is := []) hf zx PickL.nil rfl (fun _ => Nat.zero_le _)
  simpa only [updL, zL] using this
/-- append onto a slice of one's own. -/
theorem oc_appendO {x y : Operand} {α : Type} {sz by_ : Nat} {f : α → List Ty} {l m : List α} {t e : TypeId} {z v : Value} {U : Ty} {L' : Value → List Res} (i : Nat) (hx : Opd E x = some (TAnd (Is v) (TSl sz f l))) (hL : L[i]? = some (ownSl v sz e)) (hy : Opd E y = some U) (hs : Sub U (TSl sz f m))
    (hu : P.underlying t = some (.slice e)) (hinf : (P.info? e).map (fun i => (i.zero, i.size, i.bytes)) = some (some z, sz, by_)) (hz : z.cells.size = sz) (hb : (l.length + m.length) * by_ ≤ 140737488355328 ∧ l.length + m.length ≤ maxLen) (hL' : ∀ v', L.set i (ownSl v' sz e) = L' v') :
    OpC P L E ⟨dst, .call { callee := .builtin .append, args := #[x, y], argTypes := #[t, t] }, ty, pos, after, gd⟩ (fun v' => TAnd (Is v') (TSl sz f (l ++ m))) L' := by
  have := op_appendS (P := P) (L := L) (E := E) (dst := dst) (ty := ty) (pos := pos) (after := after) (gd := gd) i hx hy hs hL hu hinf hz hb.1 hb.2
  simpa only [hL'] using this
/-- append onto nil. -/
theorem oc_appendNil {x y : Operand} {α : Type} {sz by_ : Nat} {f : α → List Ty} {m : List α} {t e : TypeId} {z : Value} {U : Ty} {L' : Value → List Res} (hx : Opd E x = some (Is (.slice none 0 0))) (hy : Opd E y = some U) (hs : Sub U (TSl sz f m))
    (hu : P.underlying t = some (.slice e)) (hinf : (P.info? e).map (fun i => (i.zero, i.size, i.bytes)) = some (some z, sz, by_)) (hz : z.cells.size = sz) (hb : m.length * by_ ≤ 140737488355328 ∧ m.length ≤ maxLen) (hL' : ∀ v', L ++ [ownSl v' sz e] = L' v') :
    OpC P L E ⟨dst, .call { callee := .builtin .append, args := #[x, y], argTypes := #[t, t] }, ty, pos, after, gd⟩ (fun v' => TAnd (Is v') (TSl sz f m)) L' := by
  have hLe : L' = fun v' => L ++ [ownSl v' sz e] := by funext v'; exact (hL' v').symm
  subst hLe
  intro a w G S hsat ho ht K Q k
  -- nil owns nothing: one place more
  have ho' : Owns S (L ++ [ownSl (.slice none 0 0) sz e]) G w := by
    refine ⟨ho.bound, ho.disj, fun i b hb => by have := ho.inL i b hb; simp; omega, fun i r hr => ?_⟩
    by_cases hi : i < L.length
    · rw [List.getElem?_append_left hi] at hr; exact ho.res i r hr
    · have hlt := (List.getElem?_eq_some_iff.1 hr).1
      have hil : i = L.length := by simp at hlt; omega
      subst hil
      simp at hr
      subst hr
      exact .inl ⟨rfl, fun b hb => by have := ho.inL _ b hb; omega⟩
  have hxx : a.eval x = .slice none 0 0 := ht x (by simp [Op.operands, Call.operands]) _ hx
  have hyy := hs _ _ (ht y (by simp [Op.operands, Call.operands]) _ hy)
  obtain ⟨v', w', G', S', hr, h1, h2, h3, h4⟩ := run_append_res (P := P) (tyy := ty) (l := ([] : List α)) (f := f) (i := L.length) hu hinf hz hsat ho' (by simp) (TSlX.sl (nil_sl sz f G)) hyy (by simpa using hb.1) (by simpa using hb.2)
  have : (execOp a.eval (⟨dst, .call { callee := .builtin .append, args := #[x, y], argTypes := #[t, t] }, ty, pos, after, gd⟩ : Oper)).run P w = .ok (.value v') w' := by
    simp only [execOp, resolve]
    simp [invoke, builtin, hxx, hr]
  simp only [Oper.wp, this, Oper.upon_value]
  refine k v' w' G' S' h1 ?_ h3 ⟨rfl, by simpa using h4⟩
  have e : (L ++ [ownSl (.slice none 0 0) sz e]).set L.length (ownSl v' sz e) = L ++ [ownSl v' sz e] := by
    rw [List.set_append_right _ _ (Nat.le_refl _)]; simp
  show Owns S' (L ++ [ownSl v' sz _]) G' w'
  rw [← e]; exact h2
end
def endB : Exit → Bool
  | .ret => true
  | .normal => true
  | _ => false
theorem endB.or {e : Exit} (h : endB e = true) : e = .ret ∨ e = .normal := by cases e <;> simp [endB] at h <;> simp
section
variable {P : Program} {L : List Res} {E : Env} {fn : Func} {w0 : World} {G0 : Imm} {S0 : Nat → Nat → Prop} {N : Nat}
theorem HX.fin1 {x : Exit} (he : endB x = true) {U T : Ty} {Lo : List Res} {is : List (List Nat)} (hr : ResR P L E fn.results.toList [U]) (hp : PickX L is Lo) (hd : distinct is.flatten = true) (hT : Sub U T) : HX (FC P N w0 G0 S0) E L (bodyPost P fn (RetR w0 G0 S0 (fun _ => T) (fun _ => Lo))) x := HX.fin is (endB.or he) hr hd hp hT
theorem HX.finN {x : Exit} (he : endB x = true) {Us : List Ty} {T : Ty} {Lo : List Res} {is : List (List Nat)} (hr : ResR P L E fn.results.toList Us) (hn : Nat.beq Us.length 1 = false) (hp : PickX L is Lo) (hd : distinct is.flatten = true) (hT : Sub (TTup Us) T) : HX (FC P N w0 G0 S0) E L (bodyPost P fn (RetR w0 G0 S0 (fun _ => T) (fun _ => Lo))) x :=
  HX.fin is (endB.or he) hr hd hp (by
    match Us, hn with
    | [], _ => exact hT
    | [_], h => simp at h
    | _ :: _ :: _, _ => exact hT)

theorem HX.finS {x : Exit} (he : endB x = true) {v : Value} {sz : Nat} {e : TypeId} {T U : Ty} {is : List (List Nat)} (hr : ResR P L E fn.results.toList [TAnd (Is v) U]) (hp : PickX L is [ownSl v sz e]) (hd : distinct is.flatten = true) (hT : Sub U T) : HX (FC P N w0 G0 S0) E L (bodyPost P fn (RetR w0 G0 S0 (fun v => TAnd (Is v) T) (fun v => [ownSl v sz e]))) x :=
  HX.finG is (endB.or he) hr (fun G u h => by obtain ⟨h1, h2⟩ := h; cases h1; exact ⟨⟨rfl, hT _ _ h2⟩, hp⟩) hd
/-- A pointer to a new block is handed back. -/
theorem HX.finB {x : Exit} (he : endB x = true) {g : Nat} {e : TypeId} {ts : List Ty} {is : List (List Nat)} (hr : ResR P L E fn.results.toList [Is (pAt g 0)]) (hp : PickX L is [ownP g e ts]) (hd : distinct is.flatten = true) : HX (FC P N w0 G0 S0) E L (bodyPost P fn (RetR w0 G0 S0 (fun v => Is (pAt (blk v) 0)) (fun v => [ownP (blk v) e ts]))) x := HX.finP is (endB.or he) hr hd hp (Sub.refl _)
end
end Go.Vk
