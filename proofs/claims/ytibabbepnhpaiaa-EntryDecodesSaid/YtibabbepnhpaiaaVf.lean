/-
  Returns that hand resources back, results that are variables; loops and joints with resources. Nothing here speaks of a program; no conditions.
-/
import Derived.Test.YtibabbepnhpaiaaVy
set_option linter.unusedVariables false
namespace Go.Vk

/-- What the results are. -/
def ResR (P : Program) (L : List Res) (E : Env) : List ResultVar → List Ty → Prop
  | [], [] => True
  | .tmp t :: rs, U :: Us => E.get t = some U ∧ ResR P L E rs Us
  | .cell a t :: rs, U :: Us => (∃ (g : Nat) (e : TypeId) (ts : List Ty) (i : Nat), E.get a = some (Is (pAt g 0)) ∧ L[i]? = some (ownP g e ts) ∧ ((aggB P t = some true ∧ (P.info? t).map (·.size) = some ts.length ∧ U = TAgg ts) ∨ (aggB P t = some false ∧ ts[0]? = some U))) ∧ ResR P L E rs Us
  | _, _ => False
section
variable {P : Program} {L : List Res} {E : Env}
theorem ResR.nil : ResR P L E [] [] := trivial
theorem ResR.tmp {t : Tmp} {rs : List ResultVar} {U : Ty} {Us : List Ty} (h : E.get t = some U) (k : ResR P L E rs Us) : ResR P L E (.tmp t :: rs) (U :: Us) := ⟨h, k⟩
theorem ResR.cellA {a : Tmp} {t : TypeId} {rs : List ResultVar} {g : Nat} {e : TypeId} {ts : List Ty} {Us : List Ty} (i : Nat) (h : E.get a = some (Is (pAt g 0))) (hL : L[i]? = some (ownP g e ts)) (hag : aggB P t = some true) (hsz : (P.info? t).map (·.size) = some ts.length) (k : ResR P L E rs Us) : ResR P L E (.cell a t :: rs) (TAgg ts :: Us) := ⟨⟨g, e, ts, i, h, hL, .inl ⟨hag, hsz, rfl⟩⟩, k⟩
theorem ResR.cell1 {a : Tmp} {t : TypeId} {rs : List ResultVar} {g : Nat} {e : TypeId} {ts : List Ty} {U : Ty} {Us : List Ty} (i : Nat) (h : E.get a = some (Is (pAt g 0))) (hL : L[i]? = some (ownP g e ts)) (hag : aggB P t = some false) (hT : ts[0]? = some U) (k : ResR P L E rs Us) : ResR P L E (.cell a t :: rs) (U :: Us) := ⟨⟨g, e, ts, i, h, hL, .inr ⟨hag, hT⟩⟩, k⟩
def retTy : List Ty → Ty
  | [U] => U
  | Us => TTup Us

theorem run_cellA {g : Nat} {e : TypeId} {ts : List Ty} {i : Nat} {t : TypeId} {S : Nat → Nat → Prop} {G : Imm} {w : World} (ho : Owns S L G w) (hL : L[i]? = some (ownP g e ts)) (hag : aggB P t = some true) (hsz : (P.info? t).map (·.size) = some ts.length) : ∃ v, (loadVar t ⟨g, 0, none⟩).run P w = .ok v w ∧ (TAgg ts).p G v := by
  obtain ⟨_, ⟨cs, h2, h3, h4⟩, _⟩ := ownP.at ho hL
  refine ⟨.agg cs.toList.toArray, ?_, cs.toList, rfl, by simpa using h3, fun j T u e1 e2 => ?_⟩
  · have hr := run_loadCells_row (P := P) w g 0 cs.toList (fun j u e => by simp [World.cell?, h2]; simpa using e)
    simp only [Array.length_toList, h3] at hr
    simp [loadVar, run_isAgg hag, run_sizeOf hsz, hr]
  · obtain ⟨u', h5, h6, h7⟩ := h4 _ _ e1
    have : u' = u := by
      have e3 : cs[j]? = some u := by simpa using e2
      rw [h5] at e3; cases e3; rfl
    subst this; exact ⟨h6, h7⟩
theorem run_cell1 {g : Nat} {e : TypeId} {ts : List Ty} {i : Nat} {t : TypeId} {U : Ty} {S : Nat → Nat → Prop} {G : Imm} {w : World} (ho : Owns S L G w) (hL : L[i]? = some (ownP g e ts)) (hag : aggB P t = some false) (hT : ts[0]? = some U) : ∃ v, (loadVar t ⟨g, 0, none⟩).run P w = .ok v w ∧ U.p G v := by
  obtain ⟨_, ⟨cs, h2, h3, h4⟩, _⟩ := ownP.at ho hL
  obtain ⟨u, h5, h6, h7⟩ := h4 _ _ hT
  refine ⟨u, ?_, h6⟩
  have hcell : w.cell? ⟨g, 0, none⟩ = some u := by simp [World.cell?, h2, h5]
  simp [loadVar, run_isAgg hag, hcell]

theorem ResR.list {N : Nat} {a : Act} {S : Nat → Nat → Prop} {G : Imm} {w : World} (ht : Typed N E G a) (ho : Owns S L G w) (f : ResultVar → Sem Value) (hf1 : ∀ t, (f (.tmp t)).run P w = .ok (a.tmps.getD t undef) w) (hf2 : ∀ p t g, a.tmps.getD p undef = pAt g 0 → (f (.cell p t)).run P w = (loadVar t ⟨g, 0, Option.none⟩).run P w) : ∀ (rs : List ResultVar) (Us : List Ty), ResR P L E rs Us →
    ∃ vs : List Value, (List.mapM f rs).run P w = .ok vs w ∧ ArgsT G Us vs
  | [], [], _ => ⟨[], by simp, trivial⟩
  | .tmp t :: rs, U :: Us, ⟨h, k⟩ => by
    obtain ⟨vs, h1, h2⟩ := ResR.list ht ho f hf1 hf2 rs Us k
    exact ⟨a.tmps.getD t undef :: vs, by simp only [List.mapM_cons, Sem.run_bind, Sem.run_pure, Result.andThen_ok, h1, hf1], ht.get t U h, h2⟩
  | .cell p t :: rs, U :: Us, ⟨⟨g, e, ts, i, h, hL, hc⟩, k⟩ => by
    obtain ⟨vs, h1, h2⟩ := ResR.list ht ho f hf1 hf2 rs Us k
    have hp : a.tmps.getD p undef = pAt g 0 := ht.get p _ h
    have key : ∃ v, (loadVar t ⟨g, 0, Option.none⟩).run P w = .ok v w ∧ U.p G v := by
      rcases hc with ⟨c1, c2, rfl⟩ | ⟨c1, c2⟩
      · exact run_cellA ho hL c1 c2
      · exact run_cell1 ho hL c1 c2
    obtain ⟨v, h3, h4⟩ := key
    exact ⟨v :: vs, by simp only [List.mapM_cons, Sem.run_bind, Sem.run_pure, Result.andThen_ok, h1, hf2 p t g hp, h3], h4, h2⟩
theorem ArgsT.tup {G : Imm} {Us : List Ty} {vs : List Value} (h : ArgsT G Us vs) : (TTup Us).p G (.tuple vs.toArray) := by
  obtain ⟨h1, h2⟩ := ArgsT.get _ _ h
  exact ⟨vs, rfl, h1.symm, fun j T u e1 e2 => by obtain ⟨v, e3, e4⟩ := h2 j T e1; rw [e2] at e3; cases e3; exact e4⟩
theorem ResR.val {fn : Func} {N : Nat} {Us : List Ty} {a : Act} {S : Nat → Nat → Prop} {G : Imm} {w : World} (h : ResR P L E fn.results.toList Us) (ht : Typed N E G a) (ho : Owns S L G w) : ∃ v, (results fn a.tmps).run P w = .ok v w ∧ (retTy Us).p G v := by
  have gen : ∀ f : ResultVar → Sem Value, (∀ t, (f (.tmp t)).run P w = .ok (a.tmps.getD t undef) w) → (∀ p t g, a.tmps.getD p undef = pAt g 0 → (f (.cell p t)).run P w = (loadVar t ⟨g, 0, Option.none⟩).run P w) →
      ∃ v, ((((List.mapM f fn.results.toList).run P w).andThen fun a w' => Result.ok a.toArray w').andThen fun a w' => Sem.run P (pure (if h : a.size = 1 then a[0] else Value.tuple a)) w') = Result.ok v w ∧ (retTy Us).p G v := by
    intro f hf1 hf2
    obtain ⟨vs, h1, h2⟩ := ResR.list ht ho f hf1 hf2 _ _ h
    rw [h1]
    simp only [Result.andThen_ok]
    match Us, vs, h2 with
    | [], [], _ => exact ⟨_, rfl, ⟨[], rfl, rfl, fun j T u e => by simp at e⟩⟩
    | [U], [v], h2 => exact ⟨v, by simp, h2.1⟩
    | U :: U' :: Us, v :: v' :: vs, h2 => exact ⟨.tuple (v :: v' :: vs).toArray, by simp, ArgsT.tup h2⟩
    | [], _ :: _, h2 => exact h2.elim
    | _ :: _, [], h2 => exact h2.elim
    | [_], _ :: _ :: _, h2 => exact h2.2.elim
    | _ :: _ :: _, [_], h2 => exact h2.2.elim
  have hr : fn.results = fn.results.toList.toArray := by simp
  unfold results
  rw [hr]
  simp only [List.mapM_toArray, Sem.run_bind, Sem.run_map]
  exact gen _ (fun t => by simp only [Sem.run_pure]) (fun p t g hp => by simp only [hp, asAddr, Sem.run_bind, Sem.run_pure, Result.andThen_ok])
end
section
variable {P : Program} {L : List Res} {E : Env} {fn : Func} {w0 : World} {G0 : Imm} {S0 : Nat → Nat → Prop} {N : Nat}
/-- A function is at its end: what it hands back, value and resources. -/
theorem HX.finG {e : Exit} {Us : List Ty} {T : Value → Ty} {Lo : Value → List Res} (is : List (List Nat)) (he : e = .ret ∨ e = .normal) (hr : ResR P L E fn.results.toList Us) (hT : ∀ G v, (retTy Us).p G v → (T v).p G v ∧ PickX L is (Lo v)) (hd : distinct is.flatten = true) : HX (FC P N w0 G0 S0) E L (bodyPost P fn (RetR w0 G0 S0 T Lo)) e :=
  HX.val he fun a w G S hi ht => by
    obtain ⟨v, h1, h2⟩ := hr.val ht hi.owns
    obtain ⟨h3, h4⟩ := hT G v h2
    exact ⟨v, h1, h3, _, hi.owns.pickX hd h4, fun k b ⟨_, _, i, _, hb⟩ => ⟨i, hb⟩⟩
theorem HX.fin {e : Exit} {Us : List Ty} {T : Ty} {Lo : List Res} (is : List (List Nat)) (he : e = .ret ∨ e = .normal) (hr : ResR P L E fn.results.toList Us) (hd : distinct is.flatten = true) (hp : PickX L is Lo) (hT : Sub (retTy Us) T) : HX (FC P N w0 G0 S0) E L (bodyPost P fn (RetR w0 G0 S0 (fun _ => T) (fun _ => Lo))) e :=
  HX.finG is he hr (fun G v h => ⟨hT G v h, hp⟩) hd
/-- The value is known: a pointer. -/
theorem HX.finP {e : Exit} {u : Value} {T : Value → Ty} {Lo : Value → List Res} (is : List (List Nat)) (he : e = .ret ∨ e = .normal) (hr : ResR P L E fn.results.toList [Is u]) (hd : distinct is.flatten = true) (hp : PickX L is (Lo u)) (hT : Sub (Is u) (T u)) : HX (FC P N w0 G0 S0) E L (bodyPost P fn (RetR w0 G0 S0 T Lo)) e :=
  HX.finG is he hr (fun G v h => by cases h; exact ⟨hT G _ rfl, hp⟩) hd
end

/-! ### loops and joints -/
theorem Inv.pickX {F : FCtx} {A B : List Res} {is : List (List Nat)} {G : Imm} {w : World} {S : Nat → Nat → Prop} (h : Inv F A G w S) (hd : distinct is.flatten = true) (k : PickX A is B) : Inv F B G w (fun k b => ∃ js, is[k]? = some js ∧ ∃ i, i ∈ js ∧ S i b) := ⟨h.ext, h.owns.pickX hd k, fun j b ⟨_, _, i, _, hb⟩ => h.mine i b hb⟩
/-- The resources of a state, as a loop's head wants them. -/
structure To (L L' : List Res) : Prop where
  to : ∃ is, distinct is.flatten = true ∧ PickX L is L'
theorem To.mk' {L L' : List Res} {is : List (List Nat)} (hp : PickX L is L') (hd : distinct is.flatten = true) : To L L' := ⟨⟨is, hd, hp⟩⟩
theorem HT.loopX {F : FCtx} {E : Env} {L : List Res} {Q : Exit → Act → World → Prop} {c : Code} {σ : Type} (ks : List Nat) (upd : σ → Env) (L' : σ → List Res) (I : σ → Prop) (μ : σ → Nat) (s0 : σ) (hI : I s0) (hL : To L (L' s0)) (hu : SubE E (upd s0))
    (body : ∀ s, I s → HT F (upd s ++ E.keep ks) (L' s) c (Exit.then (RoundK F E ks upd L' I μ s) Q)) : HT F E L (.loop c) Q :=
  HT.loop (fun s => upd s ++ E.keep ks) L' I μ (fun a w G S hi ht => let ⟨is, hd, hp⟩ := hL.to; ⟨s0, G, _, hI, hi.pickX hd hp, ht.sub (hu.append (SubE.keep E ks))⟩) body
theorem HX.roundX {F : FCtx} {E E2 : Env} {L2 : List Res} {Q : Exit → Act → World → Prop} {σ : Type} {ks : List Nat} {upd : σ → Env} {L' : σ → List Res} {I : σ → Prop} {μ : σ → Nat} {s : σ} (s' : σ) (hI : I s' ∧ μ s' < μ s) (hk : E2.keep ks = E.keep ks) (hL : To L2 (L' s')) (hu : SubE E2 (upd s')) : HX F E2 L2 (Exit.then (RoundK F E ks upd L' I μ s) Q) .normal :=
  fun a w G S hi ht => let ⟨is, hd, hp⟩ := hL.to; ⟨s', G, _, hI, hi.pickX hd hp, ht.sub (hu.append (by rw [← hk]; exact SubE.keep E2 ks))⟩
theorem HX.midX {F : FCtx} {E E2 : Env} {L2 : List Res} {Q : Exit → Act → World → Prop} {σ : Type} {ks : List Nat} {upd : σ → Env} {L' : σ → List Res} {I : σ → Prop} (s' : σ) (hI : I s') (hk : E2.keep ks = E.keep ks) (hL : To L2 (L' s')) (hu : SubE E2 (upd s')) : HX F E2 L2 (Exit.then (MidK F E ks upd L' I) Q) .normal :=
  fun a w G S hi ht => let ⟨is, hd, hp⟩ := hL.to; ⟨s', G, _, hI, hi.pickX hd hp, ht.sub (hu.append (by rw [← hk]; exact SubE.keep E2 ks))⟩
/-- Some of the resources are let go, the others change places. -/
theorem HT.to {F : FCtx} {E : Env} {L L' : List Res} {Q : Exit → Act → World → Prop} {c : Code} (hL : To L L') (h : HT F E L' c Q) : HT F E L c Q := fun a w G S hi ht =>
  let ⟨is, hd, hp⟩ := hL.to; h a w G _ (hi.pickX hd hp) ht
/-- What is hidden is named. -/
theorem HT.unpack {F : FCtx} {E : Env} {L : List Res} {Q : Exit → Act → World → Prop} {c : Code} {σ : Type} {Rs : σ → List Res} (i : Nat) (hL : L[i]? = some (packR Rs)) (h : ∀ s, HT F E (L.set i empR ++ Rs s) c Q) : HT F E L c Q := fun a w G S hi ht => by
  obtain ⟨s, S', h1, h2⟩ := hi.owns.unpack hL
  exact h s a w G S' ⟨hi.ext, h1, fun k b hb => by obtain ⟨j, hj⟩ := h2 k b hb; exact hi.mine j b hj⟩ ht
end Go.Vk
