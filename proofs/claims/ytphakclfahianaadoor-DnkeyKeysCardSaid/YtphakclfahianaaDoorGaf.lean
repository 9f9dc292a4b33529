/-
  A region that draws its order and turns what is one's own: in whatever order its edges allow, if what turns stands in one row. Nothing here speaks of a program; no conditions.
  The steps through regions that turn what is one's own, in the form that 'run' takes. Nothing here speaks of a program; no conditions.
  More rules: arithmetic (products, quotients, rests, masks), literals of bytes, literals that are one's own. Nothing here speaks of a program; no conditions.
-/
import Derived.Test.YtphakclfahianaaDoorGae
set_option linter.unusedSimpArgs false
set_option linter.unusedVariables false
set_option linter.unusedVariables false
namespace Go.Vk

/-- What a plan says of an operation: its number, its mode (0: it turns what is one's own; 1: it stands ahead of all that turn behind it in the plan; 2: it reads one resource; 3: it reads none), and what is kept or read. -/
abbrev PlanE := Nat × Nat × List Nat
/-- q is run behind p. -/
def foreB (ops : Array Oper) : Nat → Nat → Nat → Bool
  | 0, _, _ => false
  | n + 1, q, p => match ops[q]? with
    | none => false
    | some o => o.after.toList.any fun e => Region.binds .any e && (Nat.beq e.on p || foreB ops n e.on p)
def dstOf (ops : Array Oper) (i : Nat) : Option Tmp := (ops[i]?).bind (·.dst)
def readsAt (ops : Array Oper) (i : Nat) : List Tmp := match ops[i]? with | some o => readsOf ops o | none => []
def edgeAt (ops : Array Oper) (q p : Nat) : Bool := match ops[q]? with | some o => edge o p | none => false
def rd (ops : Array Oper) (q : Nat) (d : Option Tmp) : Bool := match d with | some t => (readsAt ops q).contains t | none => false
/-- Two entries of a plan, the first ahead of the second; fr: what has surely been run. -/
def pairB (ops : Array Oper) (fr : Nat → Bool) (a b : PlanE) : Bool :=
  (!Nat.beq a.1 b.1) && ((dstOf ops a.1).isNone || dstOf ops a.1 != dstOf ops b.1) &&
  (!rd ops b.1 (dstOf ops a.1) || edgeAt ops b.1 a.1) && (!rd ops a.1 (dstOf ops b.1) || edgeAt ops b.1 a.1) &&
  (fr a.1 || match a.2.1, b.2.1 with
   | 0, _ => foreB ops ops.size b.1 a.1
   | 1, 0 => foreB ops ops.size b.1 a.1
   | 2, 0 => (match a.2.2 with | [k] => b.2.2.any (Nat.beq k) | _ => false) || foreB ops ops.size b.1 a.1
   | _, _ => true)
def pairsB (ops : Array Oper) (fr : Nat → Bool) : List PlanE → Bool
  | [] => true
  | a :: r => r.all (pairB ops fr a) && pairsB ops fr r
/-- What stands behind a plan in more than one order: alternatives, side by side, each with what stands behind it. -/
inductive CT where
  | leaf : CT
  | br (e : PlanE) (t r : CT) : CT
def headsT : CT → List Nat
  | .leaf => []
  | .br e _ r => e.1 :: headsT r
def frOf (dr : List PlanE) (i : Nat) : Bool := dr.any fun x => Nat.beq x.1 i
def okE (ops : Array Oper) (a : PlanE) : Bool := Nat.blt a.1 ops.size && !rd ops a.1 (dstOf ops a.1)
/-- What may be run next is in the plan, or one of the alternatives. -/
def coverB (ops : Array Oper) (pl : List PlanE) (hs : List Nat) : Bool :=
  (List.range ops.size).all fun i => frOf pl i || hs.any (Nat.beq i) || (List.range ops.size).any fun k => !frOf pl k && foreB ops ops.size i k
def chkT (ops : Array Oper) (pl0 : List PlanE) : List PlanE → CT → Bool → Bool
  | dr, .leaf, true => (List.range ops.size).all fun i => frOf (pl0 ++ dr) i
  | _, .leaf, false => true
  | dr, .br e t r, b => (!b || coverB ops (pl0 ++ dr) (headsT (.br e t r))) && okE ops e && pairsB ops (frOf dr) (pl0 ++ dr ++ [e]) && chkT ops pl0 (dr ++ [e]) t true && chkT ops pl0 dr r false
def chkM (ops : Array Oper) (pl : List PlanE) (tr : CT) : Bool :=
  (pl.all (okE ops)) &&
  ((List.range ops.size).all fun i => match ops[i]? with | none => true | some o => o.after.toList.all fun e => !Region.binds .any e || Nat.blt e.on i) && pairsB ops (frOf []) pl && chkT ops pl [] tr true

/-- What an operation may ask of the resources. -/
def modeL (L : List Res) (m : Nat) (ks : List Nat) : List Res :=
  match m, ks with
  | 1, _ => L
  | 2, [k] => (L[k]?).toList
  | _, _ => []
def RegM (F : FCtx) (ops : Array Oper) (fin : Env → List Res → Prop) : List PlanE → Env → List Res → Prop
  | [], E, L => fin E L
  | (j, 0, keep) :: r, E, L => ∃ o T L', ops[j]? = some o ∧ o.guard = none ∧ dstB F.N o = true ∧ OpC F.P L E o T L' ∧ (∀ v, ∀ k ∈ keep, (L' v)[k]? = L[k]?) ∧ ∀ v, RegM F ops fin r (E.put o.dst (T v)) (L' v)
  | (j, m + 1, ks) :: r, E, L => ∃ o T, ops[j]? = some o ∧ dstB F.N o = true ∧ OpG F.P ops (modeL L (m + 1) ks) E o T ∧ RegM F ops fin r (E.put o.dst T) L

theorem OpP.more {P : Program} {L L' : List Res} {E : Env} {o : Oper} {T : Ty} (h : OpP P L E o T) (hl : ∀ S G w, Owns S L' G w → ∃ S', Owns S' L G w) : OpP P L' E o T := fun a w G S hs ho ht K Q k => by
  obtain ⟨S', ho'⟩ := hl S G w ho
  exact h a w G S' hs ho' ht K Q k
theorem OpG.more {P : Program} {ops : Array Oper} {L L' : List Res} {E : Env} {o : Oper} {T : Ty} (h : OpG P ops L E o T) (hl : ∀ S G w, Owns S L' G w → ∃ S', Owns S' L G w) : OpG P ops L' E o T := by
  unfold OpG at h ⊢
  split at h
  · exact h.more hl
  · obtain ⟨d, Tg, c, T', h1, h2, h3, h4, h5⟩ := h
    exact ⟨d, Tg, c, T', h1, h2, h3, fun hc => (h4 hc).more hl, h5⟩
/-- What holds of the resources now is enough for the mode. -/
def ModeOk (m : Nat) (ks : List Nat) (L Ln : List Res) : Prop := (m = 1 → Ln = L) ∧ (m = 2 → ∀ k, ks = [k] → Ln[k]? = L[k]?)
theorem ModeOk.owns {m : Nat} {ks : List Nat} {L Ln : List Res} (h : ModeOk m ks L Ln) : ∀ S G w, Owns S Ln G w → ∃ S', Owns S' (modeL L m ks) G w := by
  intro S G w ho
  unfold modeL
  split
  · rw [h.1 rfl] at ho; exact ⟨S, ho⟩
  · rename_i k
    have hk := h.2 rfl k rfl
    rw [← hk]
    cases hL : Ln[k]? with
    | none => exact ⟨_, Owns.none G w⟩
    | some R =>
      refine ⟨fun j b => j = 0 ∧ S k b, fun j b hb => ho.bound k b hb.2, fun i j b hi hj => by omega, fun j b hb => by simp [hb.1], fun j r hr => ?_⟩
      cases j with
      | zero => simp at hr; subst hr; simpa using ho.res k _ hL
      | succ j => simp at hr
  · exact ⟨_, Owns.none G w⟩

section
variable {F : FCtx} {ops : Array Oper} {fin : Env → List Res → Prop}
def slotOk (G : Imm) (a : Act) (o : Oper) (T : Ty) : Prop := ∀ d, o.dst = some d → T.p G (a.tmps.getD d undef)
/-- How things stand when some of a plan's operations have been run. -/
def GoodM (F : FCtx) (ops : Array Oper) (fin : Env → List Res → Prop) (listed : Nat → Bool) (a : Act) (G : Imm) (Ln : List Res) : List PlanE → Env → List Res → Prop
  | [], E, L => L = Ln ∧ fin E L
  | (j, 0, keep) :: r, E, L =>
    (listed j = true ∧ ∃ o T L1, ops[j]? = some o ∧ dstB F.N o = true ∧ slotOk G a o T ∧ GoodM F ops fin listed a G Ln r (E.put o.dst T) L1) ∨
    (listed j = false ∧ L = Ln ∧ RegM F ops fin ((j, 0, keep) :: r) E L ∧ ∀ x ∈ r, listed x.1 = false)
  | (j, m + 1, ks) :: r, E, L => ∃ o T, ops[j]? = some o ∧ dstB F.N o = true ∧ ((listed j = true ∧ slotOk G a o T) ∨ (listed j = false ∧ OpG F.P ops (modeL L (m + 1) ks) E o T ∧ ModeOk (m + 1) ks L Ln)) ∧ GoodM F ops fin listed a G Ln r (E.put o.dst T) L

theorem GoodM.start {listed : Nat → Bool} {a : Act} {G : Imm} : ∀ (pl : List PlanE) (E : Env) (L : List Res), RegM F ops fin pl E L → (∀ x ∈ pl, listed x.1 = false) → GoodM F ops fin listed a G L pl E L
  | [], E, L, h, _ => ⟨rfl, h⟩
  | (j, 0, keep) :: r, E, L, h, hl => .inr ⟨hl (j, 0, keep) (by simp), rfl, h, fun x hx => hl x (by simp [hx])⟩
  | (j, m + 1, ks) :: r, E, L, ⟨o, T, h1, h2, h3, h4⟩, hl => ⟨o, T, h1, h2, .inr ⟨hl (j, m + 1, ks) (by simp), h3, fun _ => rfl, fun _ _ _ => rfl⟩, GoodM.start r _ _ h4 (fun x hx => hl x (by simp [hx]))⟩

theorem RegM.snoc {fin' : Env → List Res → Prop} (e : PlanE) (h : ∀ E L, fin E L → RegM F ops fin' [e] E L) : ∀ (pl : List PlanE) (E : Env) (L : List Res), RegM F ops fin pl E L → RegM F ops fin' (pl ++ [e]) E L
  | [], E, L, k => h E L k
  | (j, 0, keep) :: r, E, L, ⟨o, T, L', h1, h2, h3, h4, h5, h6⟩ => ⟨o, T, L', h1, h2, h3, h4, h5, fun v => RegM.snoc e h r _ _ (h6 v)⟩
  | (j, m + 1, ks) :: r, E, L, ⟨o, T, h1, h2, h3, h4⟩ => ⟨o, T, h1, h2, h3, RegM.snoc e h r _ _ h4⟩
theorem GoodM.snoc {fin' : Env → List Res → Prop} {listed : Nat → Bool} {a : Act} {G : Imm} {Ln : List Res} (e : PlanE) (h : ∀ E L, fin E L → RegM F ops fin' [e] E L) (he : listed e.1 = false) : ∀ (pl : List PlanE) (E : Env) (L : List Res), GoodM F ops fin listed a G Ln pl E L → GoodM F ops fin' listed a G Ln (pl ++ [e]) E L
  | [], E, L, k => by
    obtain ⟨rfl, k⟩ := k
    exact GoodM.start [e] E L (h E L k) (fun x hx => by simp at hx; subst hx; exact he)
  | (j, 0, keep) :: r, E, L, k => by
    rcases k with ⟨h1, o, T, L1, h2, h3, h4, h5⟩ | ⟨h1, h2, h3, h4⟩
    · exact .inl ⟨h1, o, T, L1, h2, h3, h4, GoodM.snoc e h he r _ _ h5⟩
    · refine .inr ⟨h1, h2, RegM.snoc e h ((j, 0, keep) :: r) E L h3, fun x hx => ?_⟩
      rcases List.mem_append.1 hx with hx | hx
      · exact h4 x hx
      · simp at hx; subst hx; exact he
  | (j, m + 1, ks) :: r, E, L, ⟨o, T, h1, h2, h3, h4⟩ => ⟨o, T, h1, h2, h3, GoodM.snoc e h he r _ _ h4⟩

theorem GoodM.mono {listed listed' : Nat → Bool} {a a' : Act} {G G' : Imm} {Ln : List Res} (hle : Imm.le G G') : ∀ (pl : List PlanE) (E : Env) (L : List Res), GoodM F ops fin listed a G Ln pl E L → (∀ x ∈ pl, listed' x.1 = listed x.1) → (∀ x ∈ pl, ∀ d, dstOf ops x.1 = some d → a'.tmps.getD d undef = a.tmps.getD d undef) → GoodM F ops fin listed' a' G' Ln pl E L
  | [], E, L, h, _, _ => h
  | (j, 0, keep) :: r, E, L, h, hl, hs => by
    rcases h with ⟨h1, o, T, L1, h2, h3, h4, h5⟩ | ⟨h1, h2, h3, h4⟩
    · refine .inl ⟨by rw [hl (j, 0, keep) (by simp)]; exact h1, o, T, L1, h2, h3, fun d hd => ?_, GoodM.mono hle r _ _ h5 (fun x hx => hl x (by simp [hx])) (fun x hx => hs x (by simp [hx]))⟩
      rw [hs (j, 0, keep) (by simp) d (by simp [dstOf, h2, hd])]
      exact T.mono hle (h4 d hd)
    · exact .inr ⟨by rw [hl (j, 0, keep) (by simp)]; exact h1, h2, h3, fun x hx => by rw [hl x (by simp [hx])]; exact h4 x hx⟩
  | (j, m + 1, ks) :: r, E, L, ⟨o, T, h1, h2, h3, h4⟩, hl, hs => by
    refine ⟨o, T, h1, h2, ?_, GoodM.mono hle r _ _ h4 (fun x hx => hl x (by simp [hx])) (fun x hx => hs x (by simp [hx]))⟩
    rcases h3 with ⟨h3, h5⟩ | ⟨h3, h5⟩
    · refine .inl ⟨by rw [hl (j, m + 1, ks) (by simp)]; exact h3, fun d hd => ?_⟩
      rw [hs (j, m + 1, ks) (by simp) d (by simp [dstOf, h1, hd])]
      exact T.mono hle (h5 d hd)
    · exact .inr ⟨by rw [hl (j, m + 1, ks) (by simp)]; exact h3, h5⟩

/-- Where an environment's types come from. -/
def SrcM (ops : Array Oper) (listed : Nat → Bool) (a : Act) (G : Imm) (E0 : Env) (pre : List PlanE) (E : Env) : Prop :=
  ∀ t U, E.get t = some U → (∃ p ∈ pre, dstOf ops p.1 = some t ∧ (listed p.1 = true → U.p G (a.tmps.getD t undef))) ∨ ((∀ p ∈ pre, dstOf ops p.1 ≠ some t) ∧ E0.get t = some U)
theorem SrcM.put {listed : Nat → Bool} {a : Act} {G : Imm} {E0 E : Env} {pre : List PlanE} (h : SrcM ops listed a G E0 pre E) {x : PlanE} {o : Oper} (ho : ops[x.1]? = some o) {T : Ty} (hT : listed x.1 = true → slotOk G a o T) : SrcM ops listed a G E0 (pre ++ [x]) (E.put o.dst T) := by
  intro t U e
  cases hd : o.dst with
  | none =>
    rw [hd] at e
    rcases h t U e with ⟨p, hp, h1, h2⟩ | ⟨h1, h2⟩
    · exact .inl ⟨p, by simp [hp], h1, h2⟩
    · refine .inr ⟨fun p hp => ?_, h2⟩
      rcases List.mem_append.1 hp with hp | hp
      · exact h1 p hp
      · simp at hp; subst hp; simp [dstOf, ho, hd]
  | some k =>
    rw [hd] at e
    simp only [Env.put, Env.get] at e
    by_cases hk : Nat.beq k t = true
    · rw [hk] at e
      have := Nat.eq_of_beq_eq_true hk
      subst this
      simp at e; subst e
      exact .inl ⟨x, by simp, by simp [dstOf, ho, hd], fun hl => hT hl k hd⟩
    · have hk' : Nat.beq k t = false := Bool.eq_false_iff.2 hk
      rw [hk'] at e
      rcases h t U e with ⟨p, hp, h1, h2⟩ | ⟨h1, h2⟩
      · exact .inl ⟨p, by simp [hp], h1, h2⟩
      · refine .inr ⟨fun p hp => ?_, h2⟩
        rcases List.mem_append.1 hp with hp | hp
        · exact h1 p hp
        · simp at hp; subst hp
          simp only [dstOf, ho, Option.bind_some, hd]
          intro e'; cases e'; simp at hk

theorem foreB.sound {listed : Nat → Bool} (hcl : ∀ (i : Nat) (o : Oper), ops[i]? = some o → listed i = true → ∀ e ∈ o.after, Region.binds .any e = true → listed e.on = true) :
    ∀ (n q p : Nat), foreB ops n q p = true → (∀ o, ops[q]? = some o → ∀ e ∈ o.after, Region.binds .any e = true → listed e.on = true) → listed p = true
  | 0, q, p, h, _ => by simp [foreB] at h
  | n + 1, q, p, h, hq => by
    unfold foreB at h
    cases ho : ops[q]? with
    | none => rw [ho] at h; cases h
    | some o =>
      rw [ho] at h
      dsimp only at h
      rw [List.any_eq_true] at h
      obtain ⟨e, he, hb⟩ := h
      simp only [Bool.and_eq_true, Bool.or_eq_true] at hb
      have hl := hq o ho e (by simpa using he) hb.1
      rcases hb.2 with h1 | h1
      · rw [← Nat.eq_of_beq_eq_true h1]; exact hl
      · exact foreB.sound hcl n e.on p h1 (fun o' ho' e' he' hb' => hcl e.on o' ho' hl e' he' hb')

theorem edgeAt.sound {listed : Nat → Bool} {q p : Nat} (h : edgeAt ops q p = true) (hq : ∀ o, ops[q]? = some o → ∀ e ∈ o.after, Region.binds .any e = true → listed e.on = true) : listed p = true := by
  unfold edgeAt at h
  cases ho : ops[q]? with
  | none => rw [ho] at h; cases h
  | some o =>
    rw [ho] at h
    obtain ⟨e, he, hb, hj⟩ := edge.out h
    rw [← hj]; exact hq o ho e he hb

/-- What an operation that may be run next is like. -/
theorem GoodM.step {fr listed : Nat → Bool} (hfr : ∀ i, fr i = true → listed i = true) {a : Act} {G : Imm} {Ln : List Res} {E0 : Env} {j : Nat} {oj : Oper} (hoj : ops[j]? = some oj) (hjl : listed j = false) (hready : ∀ e ∈ oj.after, Region.binds .any e = true → listed e.on = true)
    (hcl : ∀ (i : Nat) (o : Oper), ops[i]? = some o → listed i = true → ∀ e ∈ o.after, Region.binds .any e = true → listed e.on = true)
    (hsz : ∀ d, oj.dst = some d → d < a.tmps.size)
    (hrest : ∀ d T, E0.get d = some T → (∀ (i : Nat) (o : Oper), ops[i]? = some o → o.dst = some d → listed i = false) → T.p G (a.tmps.getD d undef))
    (hself : rd ops j (dstOf ops j) = false) :
    ∀ (pl : List PlanE) (E : Env) (L : List Res) (pre : List PlanE), GoodM F ops fin listed a G Ln pl E L → SrcM ops listed a G E0 pre E → pairsB ops fr pl = true → (∀ x ∈ pre, ∀ y ∈ pl, pairB ops fr x y = true) → (∀ (i : Nat), i < ops.size → (∃ x, x ∈ pre ++ pl ∧ x.1 = i) ∨ listed i = false) → (∃ x ∈ pl, x.1 = j) → (∀ x ∈ pre, x.1 ≠ j) →
    (∃ E' T, dstB F.N oj = true ∧ OpG F.P ops Ln E' oj T ∧ (∀ t, t ∈ readsOf ops oj → ∀ U, E'.get t = some U → U.p G (a.tmps.getD t undef)) ∧ ∀ v G', Imm.le G G' → T.p G' v → GoodM F ops fin (fun i => if i = j then true else listed i) (a.put oj.dst v) G' Ln pl E L) ∨
    (∃ E' T L' keep, (∃ x ∈ pl, x = (j, 0, keep)) ∧ oj.guard = none ∧ dstB F.N oj = true ∧ OpC F.P Ln E' oj T L' ∧ (∀ v, ∀ k ∈ keep, (L' v)[k]? = Ln[k]?) ∧ (∀ t, t ∈ readsOf ops oj → ∀ U, E'.get t = some U → U.p G (a.tmps.getD t undef)) ∧ ∀ v G', Imm.le G G' → (T v).p G' v → GoodM F ops fin (fun i => if i = j then true else listed i) (a.put oj.dst v) G' (L' v) pl E L)
  | [], E, L, pre, _, _, _, _, _, hin, _ => by obtain ⟨x, hx, _⟩ := hin; simp at hx
  | x :: r, E, L, pre, h, hsrc, hpairs, hpre, hall, hin, hnp => by
    have hp1 : ∀ y ∈ r, pairB ops fr x y = true := by
      simp only [pairsB, Bool.and_eq_true, List.all_eq_true] at hpairs
      exact hpairs.1
    have hp2 : pairsB ops fr r = true := by simp only [pairsB, Bool.and_eq_true] at hpairs; exact hpairs.2
    have hreadyq : ∀ o, ops[j]? = some o → ∀ e ∈ o.after, Region.binds .any e = true → listed e.on = true := fun o ho => by rw [hoj] at ho; cases ho; exact hready
    have hidx : ∀ y ∈ r, y.1 ≠ x.1 := fun y hy e => by
      have := hp1 y hy
      unfold pairB at this
      simp [e] at this
    by_cases hxj : x.1 = j
    · -- the operation stands here
      have hreads : ∀ t, t ∈ readsOf ops oj → ∀ U, E.get t = some U → U.p G (a.tmps.getD t undef) := by
        intro t ht U hU
        have hrt : ∀ d, d = some t → rd ops j d = true := fun d e => by
          subst e
          simp only [rd, readsAt, hoj]
          simpa using ht
        rcases hsrc t U hU with ⟨p, hp, h1, h2⟩ | ⟨h1, h2⟩
        · have hpb := hpre p hp x (by simp)
          unfold pairB at hpb
          simp only [Bool.and_eq_true, Bool.or_eq_true, Bool.not_eq_true'] at hpb
          have hed := hpb.1.1.2
          rw [hxj, hrt _ h1] at hed
          simp at hed
          exact h2 (edgeAt.sound hed hreadyq)
        · refine hrest t U h2 fun i o hio hd => ?_
          have hdi : dstOf ops i = some t := by simp [dstOf, hio, hd]
          by_cases hun : listed i = false
          · exact hun
          obtain ⟨y, hy, rfl⟩ := (hall i (Array.getElem?_eq_some_iff.1 hio).1).resolve_right hun
          rcases List.mem_append.1 hy with hy | hy
          · exact absurd hdi (h1 y hy)
          · rcases List.mem_cons.1 hy with rfl | hy
            · rw [hxj] at hdi
              rw [hrt _ hdi] at hself; cases hself
            · have hpb := hp1 y hy
              unfold pairB at hpb
              simp only [Bool.and_eq_true, Bool.or_eq_true, Bool.not_eq_true'] at hpb
              have hed := hpb.1.2
              rw [hxj, hrt _ hdi] at hed
              simp at hed
              cases hl : listed y.1 with
              | false => rfl
              | true =>
                have := edgeAt.sound hed (fun o' ho' => hcl _ o' ho' hl)
                rw [hjl] at this; cases this
      have hslot : ∀ y ∈ r, ∀ d v, dstOf ops y.1 = some d → (a.put oj.dst v).tmps.getD d undef = a.tmps.getD d undef := by
        intro y hy d v hd
        have hpb := hp1 y hy
        unfold pairB at hpb
        simp only [Bool.and_eq_true, Bool.or_eq_true] at hpb
        have hdd := hpb.1.1.1.2
        cases hod : oj.dst with
        | none => rfl
        | some k =>
          rw [Act.put_getD a k d v (hsz k hod)]
          have : dstOf ops x.1 = some k := by rw [hxj]; simp [dstOf, hoj, hod]
          rw [this, hd] at hdd
          simp at hdd
          rw [if_neg hdd]
      have hnewslot : ∀ (T : Ty) v G', T.p G' v → slotOk G' (a.put oj.dst v) oj T := by
        intro T v G' hv d hd
        rw [hd, Act.put_getD a d d v (hsz d hd), if_pos rfl]; exact hv
      obtain ⟨j', m, ks⟩ := x
      simp only at hxj
      subst hxj
      cases m with
      | zero =>
        rcases h with ⟨h1, _⟩ | ⟨h1, h2, h3, h4⟩
        · rw [hjl] at h1; cases h1
        · subst h2
          obtain ⟨o, T, L', e1, e2, e3, e4, e5, e6⟩ := h3
          rw [hoj] at e1; cases e1
          refine .inr ⟨E, T, L', ks, ⟨_, by simp, rfl⟩, e2, e3, e4, e5, hreads, fun v G' hle hv => .inl ⟨by simp, oj, T v, L' v, hoj, e3, hnewslot _ v G' hv, ?_⟩⟩
          refine GoodM.start r _ _ (e6 v) (fun y hy => ?_)
          have := hidx y hy
          simp only at this
          rw [if_neg this]; exact h4 y hy
      | succ m =>
        obtain ⟨o, T, e1, e2, e3, e4⟩ := h
        rw [hoj] at e1; cases e1
        rcases e3 with ⟨e3, _⟩ | ⟨_, e5, e6⟩
        · rw [hjl] at e3; cases e3
        · refine .inl ⟨E, T, e2, e5.more e6.owns, hreads, fun v G' hle hv => ⟨oj, T, hoj, e2, .inl ⟨by simp, hnewslot _ v G' hv⟩, ?_⟩⟩
          refine GoodM.mono hle r _ _ e4 (fun y hy => ?_) (fun y hy d hd => hslot y hy d v hd)
          have := hidx y hy
          simp only at this
          rw [if_neg this]
    · -- it stands further on
      have hin' : ∃ y ∈ r, y.1 = j := by
        obtain ⟨y, hy, e⟩ := hin
        rcases List.mem_cons.1 hy with rfl | hy
        · exact absurd e hxj
        · exact ⟨y, hy, e⟩
      obtain ⟨yj, hyj, eyj⟩ := hin'
      have hpx := hp1 yj hyj
      unfold pairB at hpx
      simp only [Bool.and_eq_true, Bool.or_eq_true] at hpx
      have hall' : ∀ (i : Nat), i < ops.size → (∃ y, y ∈ (pre ++ [x]) ++ r ∧ y.1 = i) ∨ listed i = false := fun i hi => by simpa using hall i hi
      have hpre' : ∀ y ∈ pre ++ [x], ∀ z ∈ r, pairB ops fr y z = true := fun y hy z hz => by
        rcases List.mem_append.1 hy with hy | hy
        · exact hpre y hy z (by simp [hz])
        · simp at hy; subst hy; exact hp1 z hz
      have hnp' : ∀ y ∈ pre ++ [x], y.1 ≠ j := fun y hy => by
        rcases List.mem_append.1 hy with hy | hy
        · exact hnp y hy
        · simp at hy; subst hy; exact hxj
      have hslotx : ∀ (o : Oper) (T : Ty) v G', ops[x.1]? = some o → Imm.le G G' → slotOk G a o T → slotOk G' (a.put oj.dst v) o T := by
        intro o T v G' ho hle hs d hd
        have hdd := hpx.1.1.1.2
        cases hod : oj.dst with
        | none => exact T.mono hle (hs d hd)
        | some k =>
          rw [Act.put_getD a k d v (hsz k hod)]
          have e1 : dstOf ops x.1 = some d := by simp [dstOf, ho, hd]
          have e2 : dstOf ops yj.1 = some k := by rw [eyj]; simp [dstOf, hoj, hod]
          rw [e1, e2] at hdd
          simp at hdd
          rw [if_neg (fun e => hdd e.symm)]
          exact T.mono hle (hs d hd)
      have hlx : (fun i => if i = j then true else listed i) x.1 = listed x.1 := by simp [hxj]
      have hfore : foreB ops ops.size yj.1 x.1 = true → listed x.1 = true := fun hf => foreB.sound hcl _ _ _ hf (by rw [eyj]; exact hreadyq)
      obtain ⟨j', m, ks⟩ := x
      simp only at hxj hlx hslotx hfore
      cases m with
      | zero =>
        rcases h with ⟨h1, o, T, L1, h2, h3, h4, h5⟩ | ⟨h1, _, _, _⟩
        · rcases GoodM.step hfr hoj hjl hready hcl hsz hrest hself r _ _ (pre ++ [(j', 0, ks)]) h5 (hsrc.put (x := (j', 0, ks)) h2 (fun _ => h4)) hp2 hpre' hall' ⟨yj, hyj, eyj⟩ hnp' with ⟨E', T', e1, e2, e3, e4⟩ | ⟨E', T', L', keep, e0, e1, e2, e3, e4, e5, e6⟩
          · exact .inl ⟨E', T', e1, e2, e3, fun v G' hle hv => .inl ⟨hlx.trans h1, o, T, L1, h2, h3, hslotx o T v G' h2 hle h4, e4 v G' hle hv⟩⟩
          · obtain ⟨z, hz, ez⟩ := e0
            exact .inr ⟨E', T', L', keep, ⟨z, by simp [hz], ez⟩, e1, e2, e3, e4, e5, fun v G' hle hv => .inl ⟨hlx.trans h1, o, T, L1, h2, h3, hslotx o T v G' h2 hle h4, e6 v G' hle hv⟩⟩
        · have hf := hpx.2
          simp only at hf
          rcases hf with hf | hf
          · rw [hfr _ hf] at h1; cases h1
          · rw [hfore hf] at h1; cases h1
      | succ m =>
        obtain ⟨o, T, h2, h3, h4, h5⟩ := h
        have hso : listed j' = true → slotOk G a o T := fun hl => by
          rcases h4 with ⟨_, h⟩ | ⟨h, _⟩
          · exact h
          · rw [hl] at h; cases h
        rcases GoodM.step hfr hoj hjl hready hcl hsz hrest hself r _ _ (pre ++ [(j', m + 1, ks)]) h5 (hsrc.put (x := (j', m + 1, ks)) h2 hso) hp2 hpre' hall' ⟨yj, hyj, eyj⟩ hnp' with ⟨E', T', e1, e2, e3, e4⟩ | ⟨E', T', L', keep, e0, e1, e2, e3, e4, e5, e6⟩
        · refine .inl ⟨E', T', e1, e2, e3, fun v G' hle hv => ⟨o, T, h2, h3, ?_, e4 v G' hle hv⟩⟩
          rcases h4 with ⟨k1, k2⟩ | ⟨k1, k2⟩
          · exact .inl ⟨hlx.trans k1, hslotx o T v G' h2 hle k2⟩
          · exact .inr ⟨hlx.trans k1, k2⟩
        · obtain ⟨z, hz, ez⟩ := e0
          refine .inr ⟨E', T', L', keep, ⟨z, by simp [hz], ez⟩, e1, e2, e3, e4, e5, fun v G' hle hv => ⟨o, T, h2, h3, ?_, e6 v G' hle hv⟩⟩
          rcases h4 with ⟨k1, k2⟩ | ⟨k1, k2, k3⟩
          · exact .inl ⟨hlx.trans k1, hslotx o T v G' h2 hle k2⟩
          · -- what it asks of the resources is kept
            have hpz := hp1 z hz
            unfold pairB at hpz
            simp only [Bool.and_eq_true, Bool.or_eq_true] at hpz
            have hf := hpz.2
            rcases hf with hf | hf
            · rw [hfr _ hf] at k1; cases k1
            rw [ez] at hf
            have hfore' : foreB ops ops.size j j' = true → False := fun hf' => by
              have := foreB.sound hcl _ _ _ hf' hreadyq
              rw [k1] at this; cases this
            refine .inr ⟨hlx.trans k1, k2, fun e => ?_, fun e k hk => ?_⟩
            · have : m = 0 := by omega
              subst this
              exact (hfore' hf).elim
            · have : m = 1 := by omega
              subst this
              subst hk
              simp only [Bool.or_eq_true] at hf
              rcases hf.symm with hf | hf
              · exact (hfore' hf).elim
              · rw [List.any_eq_true] at hf
                obtain ⟨k', hk', he⟩ := hf
                have := Nat.eq_of_beq_eq_true he
                subst this
                rw [e4 v k hk']
                exact k3.2 rfl k rfl

theorem GoodM.done {listed : Nat → Bool} {a : Act} {G : Imm} {Ln : List Res} {E0 : Env} : ∀ (pl : List PlanE) (E : Env) (L : List Res) (pre : List PlanE), GoodM F ops fin listed a G Ln pl E L → SrcM ops listed a G E0 pre E → (∀ x ∈ pl, listed x.1 = true) → ∃ E', fin E' Ln ∧ SrcM ops listed a G E0 (pre ++ pl) E'
  | [], E, L, pre, h, hs, _ => ⟨E, by rw [← h.1]; exact h.2, by simpa using hs⟩
  | (j, 0, keep) :: r, E, L, pre, h, hs, hl => by
    rcases h with ⟨h1, o, T, L1, h2, h3, h4, h5⟩ | ⟨h1, _⟩
    · obtain ⟨E', e1, e2⟩ := GoodM.done r _ _ (pre ++ [(j, 0, keep)]) h5 (hs.put (x := (j, 0, keep)) h2 (fun _ => h4)) (fun x hx => hl x (by simp [hx]))
      exact ⟨E', e1, by simpa using e2⟩
    · rw [hl (j, 0, keep) (by simp)] at h1; cases h1
  | (j, m + 1, ks) :: r, E, L, pre, ⟨o, T, h1, h2, h3, h4⟩, hs, hl => by
    have hlj := hl (j, m + 1, ks) (by simp)
    rcases h3 with ⟨_, h3⟩ | ⟨h3, _⟩
    · obtain ⟨E', e1, e2⟩ := GoodM.done r _ _ (pre ++ [(j, m + 1, ks)]) h4 (hs.put (x := (j, m + 1, ks)) h1 (fun _ => h3)) (fun x hx => hl x (by simp [hx]))
      exact ⟨E', e1, by simpa using e2⟩
    · rw [hlj] at h3; cases h3

theorem frOf.iff {pl : List PlanE} {i : Nat} : frOf pl i = true ↔ ∃ x ∈ pl, x.1 = i := by
  unfold frOf
  rw [List.any_eq_true]
  exact ⟨fun ⟨x, hx, e⟩ => ⟨x, hx, Nat.eq_of_beq_eq_true e⟩, fun ⟨x, hx, e⟩ => ⟨x, hx, by rw [e]; exact Nat.beq_refl i⟩⟩
theorem okE.facts {a : PlanE} (h : okE ops a = true) : a.1 < ops.size ∧ rd ops a.1 (dstOf ops a.1) = false := by
  unfold okE at h
  simp only [Bool.and_eq_true, Bool.not_eq_true'] at h
  exact ⟨Nat.le_of_ble_eq_true h.1, h.2⟩
theorem chkM.facts {pl : List PlanE} {tr : CT} (h : chkM ops pl tr = true) : (∀ x ∈ pl, okE ops x = true) ∧ (∀ (i : Nat) (o : Oper), ops[i]? = some o → ∀ e ∈ o.after, Region.binds .any e = true → e.on < i) ∧ pairsB ops (frOf []) pl = true ∧ chkT ops pl [] tr true = true := by
  unfold chkM at h
  simp only [Bool.and_eq_true] at h
  obtain ⟨⟨⟨h2, h3⟩, h4⟩, h5⟩ := h
  rw [List.all_eq_true] at h2 h3
  refine ⟨h2, fun i o ho e he hb => ?_, h4, h5⟩
  have := h3 i (List.mem_range.2 (Array.getElem?_eq_some_iff.1 ho).1)
  rw [ho] at this
  simp only [List.all_eq_true, Bool.or_eq_true, Bool.not_eq_true'] at this
  rcases this e (by simpa using he) with h | h
  · rw [hb] at h; cases h
  · exact Nat.le_of_ble_eq_true h
/-- The alternatives, each walked through. -/
def AltT (F : FCtx) (ops : Array Oper) (fin : Env → List Res → Prop) : CT → Bool → Env → List Res → Prop
  | .leaf, true, E, L => fin E L
  | .leaf, false, _, _ => True
  | .br e t r, _, E, L => RegM F ops (AltT F ops fin t true) [e] E L ∧ AltT F ops fin r false E L
theorem AltT.mk {E : Env} {L : List Res} {e : PlanE} {t r : CT} {b : Bool} (h : RegM F ops (AltT F ops fin t true) [e] E L) (k : AltT F ops fin r false E L) : AltT F ops fin (.br e t r) b E L := ⟨h, k⟩
theorem AltT.nil {E : Env} {L : List Res} : AltT F ops fin .leaf false E L := trivial
theorem AltT.done {E : Env} {L : List Res} (h : fin E L) : AltT F ops fin .leaf true E L := h
/-- A head of the alternatives: what stands behind it. -/
theorem AltT.head {pl0 dr : List PlanE} {j : Nat} : ∀ (tr : CT) (b : Bool), j ∈ headsT tr → chkT ops pl0 dr tr b = true → ∃ e t, e.1 = j ∧ okE ops e = true ∧ pairsB ops (frOf dr) (pl0 ++ dr ++ [e]) = true ∧ chkT ops pl0 (dr ++ [e]) t true = true ∧ ∀ E L, AltT F ops fin tr b E L → RegM F ops (AltT F ops fin t true) [e] E L
  | .leaf, b, h, _ => by simp [headsT] at h
  | .br e t r, b, h, hc => by
    unfold chkT at hc
    simp only [Bool.and_eq_true] at hc
    obtain ⟨⟨⟨⟨_, h1⟩, h2⟩, h3⟩, h4⟩ := hc
    simp only [headsT, List.mem_cons] at h
    by_cases he : e.1 = j
    · exact ⟨e, t, he, h1, h2, h3, fun E L k => k.1⟩
    · obtain ⟨e', t', k1, k2, k3, k4, k5⟩ := AltT.head r false (h.resolve_left (fun x => he x.symm)) h4
      exact ⟨e', t', k1, k2, k3, k4, fun E L k => k5 E L k.2⟩

theorem wpM_of {E : Env} {Q : Exit → Act → World → Prop} {pl0 : List PlanE} (hc3 : ∀ (i : Nat) (o : Oper), ops[i]? = some o → ∀ e ∈ o.after, Region.binds .any e = true → e.on < i) (hN : (ops.toList.all (dstB F.N)) = true) (hE : E.okB F.N = true)
    (hfin : ∀ E' L', fin E' L' → HX F E' L' Q .normal) : ∀ (fuel : Nat) (dr : List PlanE) (tr : CT) (fr : Nat → Bool) (listed : Array Bool) (a : Act) (w : World) (G : Imm) (Ln L0 : List Res) (S : Nat → Nat → Prop), (∀ x ∈ pl0 ++ dr, okE ops x = true) → pairsB ops fr (pl0 ++ dr) = true → chkT ops pl0 dr tr true = true → (∀ i, fr i = true → listed.getD i false = true) → (∀ x ∈ dr, listed.getD x.1 false = true) → (∀ i, listed.getD i false = true → frOf (pl0 ++ dr) i = true) → Inv F Ln G w S → a.tmps.size = F.N → a.defers = [] → listed.size = ops.size →
      (∀ (i : Nat) (o : Oper), ops[i]? = some o → listed.getD i false = true → ∀ e ∈ o.after, Region.binds .any e = true → listed.getD e.on false = true) →
      (∀ d T, E.get d = some T → (∀ (i : Nat) (o : Oper), ops[i]? = some o → o.dst = some d → listed.getD i false = false) → T.p G (a.tmps.getD d undef)) →
      GoodM F ops (AltT F ops fin tr true) (fun i => listed.getD i false) a G Ln (pl0 ++ dr) E L0 → unlisted listed ≤ fuel → wpAny F.P .any ops Q fuel listed a w := by
  have hdst : ∀ (i : Nat) (o : Oper), ops[i]? = some o → dstB F.N o = true := fun i o ho => by
    rw [List.all_eq_true] at hN
    exact hN o (by simpa using Array.mem_of_getElem? ho)
  have hsrc0 : ∀ (listed : Nat → Bool) (a : Act) (G : Imm), SrcM ops listed a G E [] E := fun listed a G t U e => .inr ⟨fun p hp => by simp at hp, e⟩
  have hchk : ∀ (listed : Array Bool), listed.size = ops.size → Region.ready .any ops listed = [] → ∀ i, i < ops.size → listed.getD i false = true := by
    intro listed hl h i
    induction i using Nat.strongRecOn with
    | _ i ih =>
      intro hi
      have hnot : i ∉ Region.ready .any ops listed := by rw [h]; simp
      unfold Region.ready at hnot
      rw [List.mem_filter] at hnot
      cases hb : listed.getD i false with
      | true => rfl
      | false =>
        exfalso
        apply hnot
        refine ⟨List.mem_range.2 hi, ?_⟩
        have ho : ops[i]? = some ops[i] := Array.getElem?_eq_getElem hi
        have hb' : listed.getD i true = false := by
          have hil : i < listed.size := by omega
          simp only [Array.getD_eq_getD_getElem?, Array.getElem?_eq_getElem hil, Option.getD_some] at hb ⊢
          exact hb
        rw [ho, hb']
        simp only [Option.map_some, Option.getD_some, Bool.not_false, Bool.true_and]
        rw [Array.all_eq_true_iff_forall_mem]
        intro e he
        cases hbe : Region.binds .any e with
        | false => rfl
        | true => rw [ih e.on (hc3 i _ ho e he hbe) (by have := hc3 i _ ho e he hbe; omega)]; rfl
  have hend : ∀ (dr : List PlanE) (tr : CT) (listed : Array Bool) (a : Act) (w : World) (G : Imm) (Ln L0 : List Res) (S : Nat → Nat → Prop), (∀ x ∈ pl0 ++ dr, okE ops x = true) → chkT ops pl0 dr tr true = true → (∀ i, listed.getD i false = true → frOf (pl0 ++ dr) i = true) → Inv F Ln G w S → a.tmps.size = F.N → a.defers = [] →
      (∀ d T, E.get d = some T → (∀ (i : Nat) (o : Oper), ops[i]? = some o → o.dst = some d → listed.getD i false = false) → T.p G (a.tmps.getD d undef)) →
      GoodM F ops (AltT F ops fin tr true) (fun i => listed.getD i false) a G Ln (pl0 ++ dr) E L0 → (∀ i, i < ops.size → listed.getD i false = true) → Q .normal a w := by
    intro dr tr listed a w G Ln L0 S hok hct hlp hi hs hd hr hg hall
    obtain ⟨E', h1, h2⟩ := hg.done (pl0 ++ dr) E L0 [] (hsrc0 _ _ _) (fun x hx => hall x.1 (okE.facts (hok x hx)).1)
    have h1' : fin E' Ln := by
      cases tr with
      | leaf => exact h1
      | br e t r =>
        exfalso
        unfold chkT at hct
        simp only [Bool.and_eq_true] at hct
        obtain ⟨⟨⟨⟨_, k1⟩, k2⟩, _⟩, _⟩ := hct
        obtain ⟨x, hx, ex⟩ := frOf.iff.1 (hlp e.1 (hall e.1 (okE.facts k1).1))
        have key : ∀ (l : List PlanE), (∃ x ∈ l, x.1 = e.1) → pairsB ops (frOf dr) (l ++ [e]) = true → False := by
          intro l
          induction l with
          | nil => rintro ⟨x, hx, _⟩ _; simp at hx
          | cons y l ih =>
            rintro ⟨x, hx, ex⟩ hp
            simp only [List.cons_append, pairsB, Bool.and_eq_true, List.all_eq_true] at hp
            rcases List.mem_cons.1 hx with rfl | hx
            · have := hp.1 e (by simp)
              unfold pairB at this
              simp [ex] at this
            · exact ih ⟨x, hx, ex⟩ hp.2
        exact key _ ⟨x, hx, ex⟩ k2
    refine hfin E' Ln h1' a w G S hi ⟨hs, hd, fun t T e => ?_⟩
    rcases h2 t T e with ⟨p, hp, h3, h4⟩ | ⟨h3, h4⟩
    · exact h4 (hall p.1 (okE.facts (hok p (by simpa using hp))).1)
    · refine hr t T h4 fun i o hio hod => ?_
      obtain ⟨x, hx, rfl⟩ := frOf.iff.1 (hlp i (hall i (Array.getElem?_eq_some_iff.1 hio).1))
      exact absurd (by simp [dstOf, hio, hod]) (h3 x (by simpa using hx))
  intro fuel
  induction fuel with
  | zero =>
    intro dr tr fr listed a w G Ln L0 S hok hps hct hfr hdl hlp hi hs hd hls hcl hr hg hu
    have hall := unlisted_zero (Nat.le_zero.1 hu)
    refine ⟨?_, hend dr tr listed a w G Ln L0 S hok hct hlp hi hs hd hr hg (fun i hi => hall i (by rw [hls]; exact hi))⟩
    apply List.eq_nil_iff_forall_not_mem.2
    intro i hi
    obtain ⟨o, h1, h2, _⟩ := mem_ready hi
    have hlt : i < listed.size := by rw [hls]; exact (Array.getElem?_eq_some_iff.1 h1).1
    have := hall i hlt
    simp only [Array.getD_eq_getD_getElem?, Array.getElem?_eq_getElem hlt, Option.getD_some] at this h2
    rw [this] at h2; cases h2
  | succ fuel ih =>
    intro dr tr fr listed a w G Ln L0 S hok hps hct hfr hdl hlp hi hs hd hls hcl hr hg hu
    refine ⟨fun hrd => hend dr tr listed a w G Ln L0 S hok hct hlp hi hs hd hr hg (hchk listed hls hrd), fun j hj => ?_⟩
    obtain ⟨o, ho, hnl, hed⟩ := mem_ready hj
    have hlt : j < ops.size := (Array.getElem?_eq_some_iff.1 ho).1
    have hlt' : j < listed.size := by rw [hls]; exact hlt
    have hlj : listed[j]? = some false := by
      rw [Array.getElem?_eq_getElem hlt']
      simp only [Array.getD_eq_getD_getElem?, Array.getElem?_eq_getElem hlt', Option.getD_some] at hnl
      rw [hnl]
    have hnl' : listed.getD j false = false := by simp [Array.getD_eq_getD_getElem?, hlj]
    have hset : (fun i => (listed.setIfInBounds j true).getD i false) = fun i => if i = j then true else listed.getD i false := by
      funext i
      rw [getD_set hlt']
      by_cases h : j = i
      · subst h; simp
      · rw [if_neg h, if_neg (fun e => h e.symm)]
    have hnext : ∃ (dr' : List PlanE) (tr' : CT) (fr' : Nat → Bool), (∃ x ∈ pl0 ++ dr', x.1 = j) ∧ (∀ x ∈ pl0 ++ dr', okE ops x = true) ∧ pairsB ops fr' (pl0 ++ dr') = true ∧ chkT ops pl0 dr' tr' true = true ∧ (∀ i, fr' i = true → listed.getD i false = true) ∧ (∀ x ∈ dr', x.1 = j ∨ listed.getD x.1 false = true) ∧ (∀ i, listed.getD i false = true → frOf (pl0 ++ dr') i = true) ∧ GoodM F ops (AltT F ops fin tr' true) (fun i => listed.getD i false) a G Ln (pl0 ++ dr') E L0 := by
      cases hin : frOf (pl0 ++ dr) j with
      | true => exact ⟨dr, tr, fr, frOf.iff.1 hin, hok, hps, hct, hfr, fun x hx => .inr (hdl x hx), hlp, hg⟩
      | false =>
        have hhd : j ∈ headsT tr := by
          cases tr with
          | leaf =>
            unfold chkT at hct
            rw [List.all_eq_true] at hct
            rw [hct j (List.mem_range.2 hlt)] at hin; cases hin
          | br e t r =>
            have hct' := hct
            unfold chkT at hct'
            simp only [Bool.and_eq_true, Bool.not_true, Bool.false_or] at hct'
            have hcv := hct'.1.1.1.1
            unfold coverB at hcv
            rw [List.all_eq_true] at hcv
            have := hcv j (List.mem_range.2 hlt)
            rw [hin] at this
            simp only [Bool.false_or, Bool.or_eq_true] at this
            rcases this with this | this
            · obtain ⟨k, hk, e⟩ := List.any_eq_true.1 this
              rw [Nat.eq_of_beq_eq_true e]; exact hk
            · exfalso
              obtain ⟨k, hk, e⟩ := List.any_eq_true.1 this
              simp only [Bool.and_eq_true, Bool.not_eq_true'] at e
              have hlk := foreB.sound (listed := fun i => listed.getD i false) hcl _ _ _ e.2 (fun o' ho' => by rw [ho] at ho'; cases ho'; exact hed)
              rw [hlp k hlk] at e; cases e.1
        obtain ⟨e, t, k1, k2, k3, k4, k5⟩ := AltT.head (F := F) (fin := fin) tr true hhd hct
        refine ⟨dr ++ [e], t, frOf dr, ⟨e, by simp, k1⟩, fun x hx => ?_, by rw [← List.append_assoc]; exact k3, k4, fun i hi => ?_, fun x hx => ?_, fun i hi => ?_, ?_⟩
        · rw [← List.append_assoc] at hx
          rcases List.mem_append.1 hx with hx | hx
          · exact hok x hx
          · simp at hx; subst hx; exact k2
        · obtain ⟨x, hx, rfl⟩ := frOf.iff.1 hi
          exact hdl x hx
        · rcases List.mem_append.1 hx with hx | hx
          · exact .inr (hdl x hx)
          · simp at hx; subst hx; exact .inl k1
        · obtain ⟨x, hx, e⟩ := frOf.iff.1 (hlp i hi)
          exact frOf.iff.2 ⟨x, by rw [← List.append_assoc]; exact List.mem_append.2 (.inl hx), e⟩
        · rw [← List.append_assoc]
          refine GoodM.snoc e k5 ?_ _ _ _ hg
          rw [k1]
          cases hlj : listed.getD j false with
          | false => rfl
          | true => rw [hlp j hlj] at hin; cases hin
    clear hok hps hct hfr hdl hlp hg
    obtain ⟨dr, tr, fr, ⟨xj, hxj, exj⟩, hok, hps, hct, hfr, hdl, hlp, hg⟩ := hnext
    have hself : rd ops j (dstOf ops j) = false := by have := (okE.facts (hok xj hxj)).2; rwa [exj] at this
    have hmono : ∀ i, listed.getD i false = true → (listed.setIfInBounds j true).getD i false = true := fun i h => by
      rw [getD_set hlt']; split
      · rfl
      · exact h
    have hfr' : ∀ i, fr i = true → (listed.setIfInBounds j true).getD i false = true := fun i h => hmono i (hfr i h)
    have hdl' : ∀ x ∈ dr, (listed.setIfInBounds j true).getD x.1 false = true := fun x hx => by
      rcases hdl x hx with h | h
      · rw [getD_set hlt', if_pos h.symm]
      · exact hmono _ h
    have hlp' : ∀ i, (listed.setIfInBounds j true).getD i false = true → frOf (pl0 ++ dr) i = true := fun i h => by
      rw [getD_set hlt'] at h
      by_cases hij : j = i
      · subst hij; exact frOf.iff.2 ⟨xj, hxj, exj⟩
      · rw [if_neg hij] at h; exact hlp i h
    have hcl' : ∀ (v : Value), ∀ (i : Nat) (p : Oper), ops[i]? = some p → (listed.setIfInBounds j true).getD i false = true → ∀ e ∈ p.after, Region.binds .any e = true → (listed.setIfInBounds j true).getD e.on false = true := by
      intro _ i p hp hli e he hb
      rw [getD_set hlt'] at hli ⊢
      by_cases hij : j = i
      · subst hij
        rw [ho] at hp; cases hp
        split
        · rfl
        · exact hed e he hb
      · rw [if_neg hij] at hli
        split
        · rfl
        · exact hcl i p hp hli e he hb
    have hr' : ∀ (v : Value) (G' : Imm), Imm.le G G' → ∀ d T, E.get d = some T → (∀ (i : Nat) (p : Oper), ops[i]? = some p → p.dst = some d → (listed.setIfInBounds j true).getD i false = false) → T.p G' ((a.put o.dst v).tmps.getD d undef) := by
      intro v G' hle d U hU hno
      have hno' : ∀ (i : Nat) (p : Oper), ops[i]? = some p → p.dst = some d → listed.getD i false = false := by
        intro i p hp hpd
        have := hno i p hp hpd
        rw [getD_set hlt'] at this
        split at this
        · cases this
        · exact this
      have hold := U.mono hle (hr d U hU hno')
      cases hod : o.dst with
      | none => simpa [Act.put] using hold
      | some k =>
        have hk : k ≠ d := by
          intro e
          have := hno j o ho (by rw [hod, e])
          rw [getD_set hlt', if_pos rfl] at this
          cases this
        rw [Act.put_getD a k d v (by rw [hs]; exact dstB.lt (hdst j o ho) k hod), if_neg hk]
        exact hold
    have typed : ∀ E' : Env, (∀ t, t ∈ readsOf ops o → ∀ U, E'.get t = some U → U.p G (a.tmps.getD t undef)) → TypedO E' G a o := by
      intro E' hreads x hx U hU
      cases x with
      | tmp t =>
        refine hreads t ?_ U hU
        unfold readsOf
        rw [List.mem_append]
        exact .inl (List.mem_filterMap.2 ⟨.tmp t, by simpa using hx, rfl⟩)
      | const v => cases hU; rfl
      | global g => cases hU; rfl
      | func f => cases hU; rfl
    have hu' : unlisted (listed.setIfInBounds j true) ≤ fuel := by have := unlisted_set hlj; omega
    rcases hg.step (listed := fun i => listed.getD i false) hfr ho hnl' hed hcl (fun d hd => by rw [hs]; exact dstB.lt (hdst j o ho) d hd) hr hself (pl0 ++ dr) E L0 [] (hsrc0 _ _ _) hps (fun x hx => by simp at hx) (fun i hi => by
        cases hl : listed.getD i false with
        | false => exact .inr rfl
        | true => obtain ⟨x, hx, e⟩ := frOf.iff.1 (hlp i hl); exact .inl ⟨x, by simpa using hx, e⟩) ⟨xj, hxj, exj⟩ (fun x hx => by simp at hx) with ⟨E', T, e1, e2, e3, e4⟩ | ⟨E', T, L', keep, _, e1, e2, e3, e4, e5, e6⟩
    · have hstep := OpG.step (F := F) (Q := Q) (K := wpAny F.P .any ops Q fuel (listed.setIfInBounds j true)) (w := w) (S := S) e2 hi.ext.sat hi.owns (typed E' e3)
        (by
          intro k want d hg' hdj Tg he
          have hmem : d ∈ readsOf ops o := by
            unfold readsOf
            rw [List.mem_append, hg']
            right
            simp [hdj]
          refine ⟨e3 d hmem Tg he, yielded_of hdj hs ?_ want⟩
          cases hk : ops[k]? with
          | none => rw [hk] at hdj; cases hdj
          | some p => rw [hk] at hdj; exact dstB.lt (hdst k p hk) d hdj)
        (by
          intro v w' G' hext hv
          refine ih dr tr fr _ _ _ G' Ln L0 S hok hps hct hfr' hdl' hlp' (hi.step0 hext) ((Act.put_size a o.dst v).trans hs) ((Act.put_defers' a o.dst v).trans hd) (by simpa using hls) (hcl' v) (hr' v G' hext.le) ?_ hu'
          rw [hset]
          exact e4 v G' hext.le hv)
      unfold wpOp
      rw [ho]
      dsimp only
      split
      · rename_i hw; rw [if_pos hw] at hstep; exact .inl hstep
      · rename_i hw; rw [if_neg hw] at hstep; exact hstep
    · have hstep := e3 a w G S hi.ext.sat hi.owns (typed E' e5) (wpAny F.P .any ops Q fuel (listed.setIfInBounds j true)) Q fun v w' G' S' hext ho' hs' hv => by
        refine ih dr tr fr _ _ _ G' (L' v) L0 S' hok hps hct hfr' hdl' hlp' (hi.step hext ho' hs') ((Act.put_size a o.dst v).trans hs) ((Act.put_defers' a o.dst v).trans hd) (by simpa using hls) (hcl' v) (hr' v G' hext.le) ?_ hu'
        rw [hset]
        exact e6 v G' hext.le hv
      unfold wpOp
      rw [ho]
      dsimp only
      have hw : Region.wanted o (yielded ops a.tmps) = true := by simp [Region.wanted, e1]
      rw [if_pos hw]
      exact .inl hstep
end
/-- The plan of a region. -/
structure Plan (id : Nat) (pl : List PlanE) : Prop where
  t : True
theorem Plan.mk' (id : Nat) (pl : List PlanE) : Plan id pl := ⟨trivial⟩
theorem HT.regionTr {F : FCtx} {E : Env} {L : List Res} {Q : Exit → Act → World → Prop} {id : Nat} {l : List Oper} {pl : List PlanE} (tr : CT) {fin : Env → List Res → Prop} (hm : F.P.follows .mixedOrders = true) (hE : E.okB F.N = true) (hN : (l.all (dstB F.N)) = true) (hc : chkM l.toArray pl tr = true) (hfin : ∀ E' L', fin E' L' → HX F E' L' Q .normal) (h : RegM F l.toArray (AltT F l.toArray fin tr true) pl E L) : HT F E L (.region id l.toArray true) Q := by
  intro a w G S hi ht
  refine wp_region_any hm ?_
  have hdrew : Ext noZ G w G { w with drawn := w.drawn + 1 } := ⟨fun b o v hb => hi.ext.sat b o v hb, Imm.le.refl G, rfl, rfl, rfl, Nat.le_refl _, fun _ _ _ => ⟨rfl, fun _ => rfl⟩⟩
  have hno : ∀ i, (Array.replicate l.toArray.size false).getD i false = false := fun i => by
    simp only [Array.getD_eq_getD_getElem?, Array.getElem?_replicate]
    split <;> rfl
  obtain ⟨hc2, hc3, hc4, hc5⟩ := chkM.facts hc
  refine wpM_of (F := F) (ops := l.toArray) (E := E) (pl0 := pl) hc3 (by simpa using hN) hE hfin _ [] tr (frOf []) _ _ _ G L L S (by simpa using hc2) (by simpa using hc4) hc5 (fun i hi => by simp [frOf] at hi) (fun x hx => by simp at hx) (fun i hi => ?_) (hi.step0 hdrew) ht.size ht.defers (by simp) (fun i o ho hl => ?_) (fun d T hd _ => ht.get d T hd) ?_ ?_
  · rw [hno] at hi; cases hi
  · rw [hno] at hl; cases hl
  · rw [List.append_nil]; exact GoodM.start pl E L h (fun x _ => hno x.1)
  · simp only [unlisted, Array.toList_replicate]
    exact Nat.le_trans (List.length_filter_le _ _) (by simp)
theorem HT.regionM {F : FCtx} {E : Env} {L : List Res} {Q : Exit → Act → World → Prop} {id : Nat} {l : List Oper} {pl : List PlanE} (hpl : Plan id pl) (hm : F.P.follows .mixedOrders = true) (hE : E.okB F.N = true) (hN : (l.all (dstB F.N)) = true) (hc : chkM l.toArray pl .leaf = true) (h : RegM F l.toArray (fun E' L' => HX F E' L' Q .normal) pl E L) : HT F E L (.region id l.toArray true) Q :=
  HT.regionTr .leaf hm hE hN hc (fun _ _ h => h) h
/-- A region at which the walk stands still. -/
structure Stop (id : Nat) : Prop where
  t : True
theorem Stop.mk' (id : Nat) : Stop id := ⟨trivial⟩
structure HTs (F : FCtx) (E : Env) (L : List Res) (c : Code) (Q : Exit → Act → World → Prop) : Prop where
  h : HT F E L c Q
theorem HT.stop {F : FCtx} {E : Env} {L : List Res} {Q : Exit → Act → World → Prop} {id : Nat} {ops : Array Oper} {b : Bool} (hst : Stop id) (h : HTs F E L (.region id ops b) Q) : HT F E L (.region id ops b) Q := h.h
/-- The orders meet again: of what stood before ks stays. -/
structure Met {σ : Type} (E : Env) (ks : List Nat) (upd : σ → Env) (L' : σ → List Res) (E2 : Env) (L2 : List Res) : Prop where
  m : ∃ s, E2.keep ks = E.keep ks ∧ To L2 (L' s) ∧ SubE E2 (upd s)
theorem Met.at {σ : Type} {E : Env} {ks : List Nat} {upd : σ → Env} {L' : σ → List Res} {E2 : Env} {L2 : List Res} (s : σ) (hk : E2.keep ks = E.keep ks) (hL : To L2 (L' s)) (hu : SubE E2 (upd s)) : Met E ks upd L' E2 L2 := ⟨s, hk, hL, hu⟩
theorem HT.regionT {F : FCtx} {E : Env} {L : List Res} {Q : Exit → Act → World → Prop} {id : Nat} {l : List Oper} {σ : Type} (pl : List PlanE) (tr : CT) (ks : List Nat) (upd : σ → Env) (L' : σ → List Res) (hm : F.P.follows .mixedOrders = true) (hE : E.okB F.N = true) (hN : (l.all (dstB F.N)) = true) (hc : chkM l.toArray pl tr = true) (h : RegM F l.toArray (AltT F l.toArray (Met E ks upd L') tr true) pl E L) (k : ∀ s, HX F (upd s ++ E.keep ks) (L' s) Q .normal) : HTs F E L (.region id l.toArray true) Q := ⟨
  HT.regionTr tr hm hE hN hc (fun E2 L2 ⟨s, hk, ⟨is, hd, hp⟩, hu⟩ a w G S hi ht =>
    k s a w G _ (hi.pickX hd hp) (ht.sub (SubE.append hu (hk ▸ SubE.keep E2 ks)))) h⟩
/-- All orders in which some operations may be run, those that must stand behind others behind them. -/
def treeOf (ops : Array Oper) : Nat → List PlanE → CT
  | 0, _ => .leaf
  | n + 1, es => (es.filter fun e => !(es.any fun x => !Nat.beq x.1 e.1 && foreB ops ops.size e.1 x.1)).foldr (fun e r => .br e (treeOf ops n (es.filter fun x => !Nat.beq x.1 e.1)) r) .leaf
end Go.Vk
set_option linter.unusedVariables false
namespace Go.Vk
section
variable {P : Program} {L : List Res} {E : Env} {dst : Option Tmp} {ty : TypeId} {pos : String} {after : Array Edge} {gd : Option (Nat × Bool)}
theorem op_shl4 {x : Operand} {m : Int} {xt yt : TypeId} (hx : Opd E x = some (okI .u8 m)) (h : 0 ≤ m ∧ m ≤ 15) : OpP P L E ⟨dst, .binOp .shl xt x (.const (.int .u64 4)) yt, ty, pos, after, gd⟩ (okI .u8 (m * 16)) :=
  op_shl (n := 4) hx rfl (by decide) (InK.u8 (by
    show 0 ≤ m * 2 ^ 4 ∧ m * 2 ^ 4 ≤ 255
    omega))
theorem or16 : ∀ m n : Fin 16, bitsOf .or .u8 ((m.val : Int) * 16) (n.val : Int) = (m.val : Int) * 16 + (n.val : Int) := by decide +kernel
theorem op_or16 {x y : Operand} {m n : Int} {xt yt : TypeId} (hx : Opd E x = some (okI .u8 (m * 16))) (hy : Opd E y = some (okI .u8 n)) (h : (0 ≤ m ∧ m ≤ 15) ∧ 0 ≤ n ∧ n ≤ 15) : OpP P L E ⟨dst, .binOp .or xt x y yt, ty, pos, after, gd⟩ (okI .u8 (m * 16 + n)) := by
  have e := or16 ⟨m.toNat, by omega⟩ ⟨n.toNat, by omega⟩
  have h1 : ((m.toNat : Nat) : Int) = m := by omega
  have h2 : ((n.toNat : Nat) : Int) = n := by omega
  simp only [h1, h2] at e
  rw [← e]
  exact op_orb hx hy
theorem op_shr4 {x : Operand} {c : UInt8} {xt yt : TypeId} (hx : Opd E x = some (okI .u8 (c.toNat : Int))) : OpP P L E ⟨dst, .binOp .shr xt x (.const (.int .u64 4)) yt, ty, pos, after, gd⟩ (okI .u8 ((c.toNat : Int) / 16)) :=
  op_shr (n := 4) hx rfl (by decide)
theorem and15 : ∀ n : Fin 256, bitsOf .and .u8 (n.val : Int) 15 = (n.val : Int) % 16 := by decide +kernel
theorem op_and15 {x : Operand} {c : UInt8} {xt yt : TypeId} (hx : Opd E x = some (okI .u8 (c.toNat : Int))) : OpP P L E ⟨dst, .binOp .and xt x (.const (.int .u8 15)) yt, ty, pos, after, gd⟩ (okI .u8 ((c.toNat : Int) % 16)) := by
  have e := and15 ⟨c.toNat, c.toNat_lt⟩
  simp only at e
  rw [← e]
  exact op_andb hx rfl
end
section
variable {F : FCtx} {E : Env} {L : List Res} {Q : Exit → Act → World → Prop} {ops : Array Oper} {rest : List Oper} {fin : Env → List Res → Prop} {d : Nat} {op : Op} {ty : TypeId} {pos : String} {after : Array Edge} {T : Value → Ty} {L' : Value → List Res}
theorem RegS.ofC (hd : Nat.blt d F.N = true) (hop : OpC F.P L E ⟨some d, op, ty, pos, after, none⟩ T L') (hgo : ∀ v, RegS F ops Q rest ((d, T v) :: E) (L' v)) : RegS F ops Q (⟨some d, op, ty, pos, after, none⟩ :: rest) E L := .ce hd hop hgo
theorem RegS.ofCn (hop : OpC F.P L E ⟨none, op, ty, pos, after, none⟩ T L') (hgo : ∀ v, RegS F ops Q rest E (L' v)) : RegS F ops Q (⟨none, op, ty, pos, after, none⟩ :: rest) E L := .c rfl rfl hop hgo
def KeepOk (A B : List Res) : List Nat → Prop
  | [] => True
  | k :: ks => A[k]? = B[k]? ∧ KeepOk A B ks
theorem KeepOk.nil {A B : List Res} : KeepOk A B [] := trivial
theorem KeepOk.cons {A B : List Res} {k : Nat} {ks : List Nat} (h : A[k]? = B[k]?) (r : KeepOk A B ks) : KeepOk A B (k :: ks) := ⟨h, r⟩
theorem KeepOk.at {A B : List Res} : ∀ {ks : List Nat}, KeepOk A B ks → ∀ k ∈ ks, A[k]? = B[k]?
  | [], _, k, h => by simp at h
  | j :: ks, ⟨h1, h2⟩, k, h => by
    rcases List.mem_cons.1 h with e | e
    · rw [e]; exact h1
    · exact KeepOk.at h2 k e
variable {j m : Nat} {ks keep : List Nat} {r : List PlanE}
theorem isRM {pl : List PlanE} (h : RegM F ops fin pl E L) : RegM F ops fin pl E L := h
/-- The plan says so. -/
theorem isRMc (h : RegM F ops fin ((j, 0, keep) :: r) E L) : RegM F ops fin ((j, 0, keep) :: r) E L := h
theorem RegM.nil (h : fin E L) : RegM F ops fin [] E L := h
theorem RegM.ofC (ho : ops[j]? = some ⟨some d, op, ty, pos, after, none⟩) (hd : Nat.blt d F.N = true) (hop : OpC F.P L E ⟨some d, op, ty, pos, after, none⟩ T L') (zk : ∀ v, KeepOk (L' v) L keep) (hgo : ∀ v, RegM F ops fin r ((d, T v) :: E) (L' v)) : RegM F ops fin ((j, 0, keep) :: r) E L := ⟨_, T, L', ho, rfl, hd, hop, fun v => (zk v).at, hgo⟩
theorem RegM.ofCn (ho : ops[j]? = some ⟨none, op, ty, pos, after, none⟩) (hop : OpC F.P L E ⟨none, op, ty, pos, after, none⟩ T L') (zk : ∀ v, KeepOk (L' v) L keep) (hgo : ∀ v, RegM F ops fin r E (L' v)) : RegM F ops fin ((j, 0, keep) :: r) E L := ⟨_, T, L', ho, rfl, rfl, hop, fun v => (zk v).at, hgo⟩
theorem RegM.fq {Lm : List Res} (ho : ops[j]? = some ⟨some d, op, ty, pos, after, none⟩) (hd : Nat.blt d F.N = true) (hm : modeL L (m + 1) ks = Lm) (h : ∃ T, (True → OpP F.P Lm E ⟨some d, op, ty, pos, after, none⟩ T) ∧ RegM F ops fin r ((d, T) :: E) L) : RegM F ops fin ((j, m + 1, ks) :: r) E L :=
  let ⟨T, h1, h2⟩ := h; ⟨_, T, ho, hd, by rw [hm]; exact .free rfl (h1 trivial), h2⟩
theorem RegM.fnq {Lm : List Res} (ho : ops[j]? = some ⟨none, op, ty, pos, after, none⟩) (hm : modeL L (m + 1) ks = Lm) (h : ∃ T, (True → OpP F.P Lm E ⟨none, op, ty, pos, after, none⟩ T) ∧ RegM F ops fin r E L) : RegM F ops fin ((j, m + 1, ks) :: r) E L :=
  let ⟨T, h1, h2⟩ := h; ⟨_, T, ho, rfl, by rw [hm]; exact .free rfl (h1 trivial), h2⟩
theorem RegM.ge {Lm : List Res} {jg : Nat} {want b : Bool} {dg : Nat} (ho : ops[j]? = some ⟨some d, op, ty, pos, after, some (jg, want)⟩) (hd : Nat.blt d F.N = true) (hm : modeL L (m + 1) ks = Lm) (hj : (ops[jg]?).bind (·.dst) = some dg) (he : E.get dg = some (Is (.bool b))) (h : ∃ T, (b = want → OpP F.P Lm E ⟨some d, op, ty, pos, after, some (jg, want)⟩ T) ∧ RegM F ops fin r ((d, TIf (b = want) T) :: E) L) : RegM F ops fin ((j, m + 1, ks) :: r) E L :=
  let ⟨T, h1, h2⟩ := h; ⟨_, _, ho, hd, by rw [hm]; exact .guarded rfl hj he (.is b want) h1, h2⟩
theorem RegM.gn {Lm : List Res} {jg : Nat} {want b : Bool} {dg : Nat} {c : Prop} (ho : ops[j]? = some ⟨some d, op, ty, pos, after, some (jg, want)⟩) (hd : Nat.blt d F.N = true) (hm : modeL L (m + 1) ks = Lm) (hj : (ops[jg]?).bind (·.dst) = some dg) (he : E.get dg = some (TIf c (Is (.bool b)))) (h : ∃ T, (c ∧ b = want → OpP F.P Lm E ⟨some d, op, ty, pos, after, some (jg, want)⟩ T) ∧ RegM F ops fin r ((d, TIf (c ∧ b = want) T) :: E) L) : RegM F ops fin ((j, m + 1, ks) :: r) E L :=
  let ⟨T, h1, h2⟩ := h; ⟨_, _, ho, hd, by rw [hm]; exact .guarded rfl hj he (.nest c b want) h1, h2⟩
end
end Go.Vk
set_option linter.unusedVariables false
namespace Go.Vk
section
variable {P : Program} {L : List Res} {E : Env} {dst : Option Tmp} {ty : TypeId} {pos : String} {after : Array Edge} {gd : Option (Nat × Bool)} {x y : Operand} {m n : Int} {k : IntKind} {xt yt : TypeId}
theorem op_rem (hx : Opd E x = some (okI k m)) (hy : Opd E y = some (okI k n)) (h : 0 ≤ m ∧ 0 < n) : OpP P L E ⟨dst, .binOp .rem xt x y yt, ty, pos, after, gd⟩ (okI k (m % n)) :=
  op_bin hx hy (by simp) (by simp) (fun w => by
    have e : n ≠ 0 := by omega
    simp [Op.intDiv, e]
    rfl) (fun _ => by
    rw [Int.tmod_eq_emod_of_nonneg h.1]; rfl)
theorem op_quo (hx : Opd E x = some (okI k m)) (hy : Opd E y = some (okI k n)) (h : 0 ≤ m ∧ 0 < n) (hk : InK k m ∧ (∀ q : Int, 0 ≤ q → q ≤ m → InK k q)) : OpP P L E ⟨dst, .binOp .quo xt x y yt, ty, pos, after, gd⟩ (okI k (m / n)) :=
  op_bin hx hy (by simp) (by simp) (fun w => by
    have e : n ≠ 0 := by omega
    simp [Op.intDiv, e]
    rfl) (fun _ => by
    rw [Int.tdiv_eq_ediv_of_nonneg h.1]
    have h1 : 0 ≤ m / n := Int.ediv_nonneg h.1 (by omega)
    have h2 : m / n ≤ m := Int.ediv_le_self _ h.1
    rw [show k.wrap (m / n) = m / n from hk.2 _ h1 h2]; rfl)
theorem upto_i64 (h : 0 ≤ m ∧ m ≤ 9223372036854775807) : InK .i64 m ∧ (∀ q : Int, 0 ≤ q → q ≤ m → InK .i64 q) := ⟨InK.i64 (by omega), fun q h1 h2 => InK.i64 (by omega)⟩
theorem upto_u64 (h : 0 ≤ m ∧ m ≤ 18446744073709551615) : InK .u64 m ∧ (∀ q : Int, 0 ≤ q → q ≤ m → InK .u64 q) := ⟨InK.u64 (by omega), fun q h1 h2 => InK.u64 (by omega)⟩
theorem mask_toNat (b j : Nat) (m : Int) (hj : j ≤ b) : (((BitVec.ofInt b m) &&& BitVec.ofInt b ((2 ^ j - 1 : Nat) : Int)).toNat : Int) = m % (2 ^ j : Nat) := by
  have hp : (2 : Nat) ^ j ≤ 2 ^ b := Nat.pow_le_pow_right (by decide) hj
  have h0 : 0 < (2 : Nat) ^ j := Nat.pow_pos (by decide)
  rw [BitVec.toNat_and, BitVec.toNat_ofInt, BitVec.toNat_ofInt]
  have e1 : (((2 ^ j - 1 : Nat) : Int) % ((2 ^ b : Nat) : Int)).toNat = 2 ^ j - 1 := by
    rw [Int.emod_eq_of_lt (by omega) (by omega)]; omega
  rw [e1, Nat.and_two_pow_sub_one_eq_mod]
  have hd : ((2 ^ j : Nat) : Int) ∣ ((2 ^ b : Nat) : Int) := by
    exact_mod_cast Nat.pow_dvd_pow 2 hj
  have h2 : 0 ≤ m % ((2 ^ b : Nat) : Int) := Int.emod_nonneg _ (by omega)
  rw [Int.natCast_emod, Int.toNat_of_nonneg h2, Int.emod_emod_of_dvd _ hd]
theorem op_andM (j : Nat) (hx : Opd E x = some (okI k m)) (hy : Opd E y = some (okI k n)) (hn : n = ((2 ^ j - 1 : Nat) : Int)) (hj : Nat.ble j k.bits = true) (hk : InK k (m % (2 ^ j : Nat))) : OpP P L E ⟨dst, .binOp .and xt x y yt, ty, pos, after, gd⟩ (okI k (m % (2 ^ j : Nat))) := by
  have h := op_andb (P := P) (L := L) (dst := dst) (ty := ty) (pos := pos) (after := after) (gd := gd) (xt := xt) (yt := yt) hx hy
  have e : bitsOf .and k m n = m % (2 ^ j : Nat) := by
    unfold bitsOf
    dsimp only
    rw [hn, mask_toNat k.bits j m (Nat.le_of_ble_eq_true hj)]
    exact hk
  rw [e] at h
  exact h
theorem op_and65535 (hx : Opd E x = some (okI .i64 m)) : OpP P L E ⟨dst, .binOp .and xt x (.const (.int .i64 65535)) yt, ty, pos, after, gd⟩ (okI .i64 (m % 65536)) := op_andM 16 hx rfl rfl rfl (InK.i64 (by omega))
theorem op_and31 (hx : Opd E x = some (okI .u8 m)) : OpP P L E ⟨dst, .binOp .and xt x (.const (.int .u8 31)) yt, ty, pos, after, gd⟩ (okI .u8 (m % 32)) := op_andM 5 hx rfl rfl rfl (InK.u8 (by omega))
/-! ### literals of bytes -/
theorem LitOk.nil {α : Type} {f : α → List Ty} : LitOk E f [] [] := trivial
theorem LitOk.byte {c : UInt8} {xs : List Operand} {l : List UInt8} (hx : Opd E x = some (okI .u8 (c.toNat : Int))) (k : LitOk E cB xs l) : LitOk E cB (x :: xs) (c :: l) := ⟨⟨_, hx, CellsOf.byte c⟩, k⟩
theorem LitOk.b8 {xs : List Operand} {l : List UInt8} (hx : Opd E x = some (okI .u8 m)) (hm : 0 ≤ m ∧ m < 256) (k : LitOk E cB xs l) : LitOk E cB (x :: xs) (Vk.b8 m :: l) := ⟨⟨_, hx, CellsOf.b8 hm⟩, k⟩
theorem op_litBs {nn : Nat} {l : List UInt8} {t e : TypeId} {parts : Array (Nat × Operand)} (hp : partsOk parts nn = true) (hx : LitOk E cB (partsOf parts) l) (hn : Nat.beq l.length nn = true) (hu : P.underlying t = some (.slice e)) (hi : ByteEl P e) (hb : Nat.ble nn 16777216 = true) : OpP P L E ⟨dst, .buildSlice t nn parts, ty, pos, after, gd⟩ (TSlX 1 cB l) :=
  op_lit cB l hp hx (Nat.eq_of_beq_eq_true hn).symm (by simp [cB]) hu hi (by have := Nat.le_of_ble_eq_true hb; omega) (by have := Nat.le_of_ble_eq_true hb; simp only [maxLen]; omega)
theorem oc_litBs {nn d : Nat} {l : List UInt8} {t e : TypeId} {parts : Array (Nat × Operand)} {L' : Value → List Res} (hp : partsOk parts nn = true) (hx : LitOk E cB (partsOf parts) l) (hn : Nat.beq l.length nn = true) (hu : P.underlying t = some (.slice e)) (hi : ByteEl P e) (hb : Nat.ble nn 16777216 = true) (hL' : ∀ v, L ++ [ownSl v 1 e] = L' v) :
    OpC P L E ⟨some d, .buildSlice t nn parts, ty, pos, after, gd⟩ (fun v => TAnd (Is v) (TBytes l)) L' := by
  have := op_litO (P := P) (L := L) (E := E) (dst := some d) (ty := ty) (pos := pos) (after := after) (gd := gd) cB l hp hx (Nat.eq_of_beq_eq_true hn).symm (by simp [cB]) hu hi (by have := Nat.le_of_ble_eq_true hb; omega) (by have := Nat.le_of_ble_eq_true hb; simp only [maxLen]; omega)
  simpa only [hL'] using this
theorem oc_litT {nn sz by_ d : Nat} {t e : TypeId} {z : Value} {parts : Array (Nat × Operand)} {tss : List (List Ty)} {L' : Value → List Res} (hp : partsOk parts nn = true) (hx : PartsT E sz (partsOf parts) tss) (hu : P.underlying t = some (.slice e)) (hinf : (P.info? e).map (fun i => (i.zero, i.size, i.bytes)) = some (some z, sz, by_)) (hn : Nat.beq tss.length nn = true) (hb : nn * sz ≤ 16777216 ∧ nn ≤ 16777216) (hL' : ∀ v, L ++ [ownSl v sz e] = L' v) :
    OpC P L E ⟨some d, .buildSlice t nn parts, ty, pos, after, gd⟩ (fun v => TAnd (Is v) (TSl sz (fun ts : List Ty => ts) tss)) L' := by
  obtain ⟨h1, h2, h3⟩ := hx.lit
  have := op_litO (P := P) (L := L) (E := E) (dst := some d) (ty := ty) (pos := pos) (after := after) (gd := gd) (fun ts : List Ty => ts) tss hp h1 (Nat.eq_of_beq_eq_true hn).symm h3 hu hinf hb.1 (by simp only [maxLen]; omega)
  simpa only [hL'] using this
/-- The same, where a marker says so. -/
theorem oc_litM {op : Op} {d : Nat} {ds : List Nat} {T : Value → Ty} {L' : Value → List Res} (hm : Mut ds) (hmd : ds.any (Nat.beq d) = true) (h : OpC P L E ⟨some d, op, ty, pos, after, gd⟩ T L') : OpC P L E ⟨some d, op, ty, pos, after, gd⟩ T L' := h
/-! ### append, with bounds on lengths alone -/
theorem upto_bytes {a b : Nat} (h1 : Nat.ble b 1024 = true) (h2 : a ≤ 137438953472) : a * b ≤ 140737488355328 ∧ a ≤ maxLen := by
  have := Nat.le_of_ble_eq_true h1
  refine ⟨Nat.le_trans (Nat.mul_le_mul h2 this) (by decide), ?_⟩
  simp only [maxLen]; omega
variable {α : Type} {sz by_ : Nat} {f : α → List Ty} {l q : List α} {t e : TypeId} {z v : Value} {U : Ty} {L' : Value → List Res}
theorem oc_appendO' (i : Nat) (hx : Opd E x = some (TAnd (Is v) (TSl sz f l))) (hL : L[i]? = some (ownSl v sz e)) (hy : Opd E y = some U) (hs : Sub U (TSl sz f q))
    (hu : P.underlying t = some (.slice e)) (hinf : (P.info? e).map (fun i => (i.zero, i.size, i.bytes)) = some (some z, sz, by_)) (hz : z.cells.size = sz) (hb : Nat.ble by_ 1024 = true) (hl : l.length + q.length ≤ 137438953472) (hL' : ∀ v', L.set i (ownSl v' sz e) = L' v') :
    OpC P L E ⟨dst, .call { callee := .builtin .append, args := #[x, y], argTypes := #[t, t] }, ty, pos, after, gd⟩ (fun v' => TAnd (Is v') (TSl sz f (l ++ q))) L' := oc_appendO i hx hL hy hs hu hinf hz (upto_bytes hb hl) hL'
theorem oc_appendNil' (hx : Opd E x = some (Is (.slice none 0 0))) (hy : Opd E y = some U) (hs : Sub U (TSl sz f q))
    (hu : P.underlying t = some (.slice e)) (hinf : (P.info? e).map (fun i => (i.zero, i.size, i.bytes)) = some (some z, sz, by_)) (hz : z.cells.size = sz) (hb : Nat.ble by_ 1024 = true) (hl : q.length ≤ 137438953472) (hL' : ∀ v', L ++ [ownSl v' sz e] = L' v') :
    OpC P L E ⟨dst, .call { callee := .builtin .append, args := #[x, y], argTypes := #[t, t] }, ty, pos, after, gd⟩ (fun v' => TAnd (Is v') (TSl sz f q)) L' := oc_appendNil hx hy hs hu hinf hz (upto_bytes hb hl) hL'
theorem op_append0' {x : Nat} (hx : E.get x = some (TSlX sz (fun ts : List Ty => ts) [])) (hy : Opd ((x, TSlX sz f ([] : List α)) :: E) y = some (TSl sz f q))
    (hu : P.underlying t = some (.slice e)) (hinf : (P.info? e).map (fun i => (i.zero, i.size, i.bytes)) = some (some z, sz, by_)) (hb : Nat.ble by_ 1024 = true) (hl : q.length ≤ 137438953472) :
    OpP P L E ⟨dst, .call { callee := .builtin .append, args := #[.tmp x, y], argTypes := #[t, t] }, ty, pos, after, gd⟩ (TSl sz f q) := op_append0 hx hy hu hinf (upto_bytes hb hl)
theorem op_appendXT' {l q : List (List Ty)} (hx : Opd E x = some (TSlX sz (fun ts : List Ty => ts) l)) (hy : Opd E y = some (TSl sz (fun ts : List Ty => ts) q))
    (hu : P.underlying t = some (.slice e)) (hinf : (P.info? e).map (fun i => (i.zero, i.size, i.bytes)) = some (some z, sz, by_)) (hb : Nat.ble by_ 1024 = true) (hl : l.length + q.length ≤ 137438953472) :
    OpP P L E ⟨dst, .call { callee := .builtin .append, args := #[x, y], argTypes := #[t, t] }, ty, pos, after, gd⟩ (TSl sz (fun ts : List Ty => ts) (l ++ q)) := op_appendXT hx hy hu hinf (upto_bytes hb hl)
theorem oc_appendT' {x : Nat} {tss : List (List Ty)} (i : Nat) (hx : E.get x = some (TAnd (Is v) (TSl sz f l))) (hL : L[i]? = some (ownSl v sz e)) (hy : Opd E y = some (TSlX sz (fun ts : List Ty => ts) tss))
    (hu : P.underlying t = some (.slice e)) (hinf : (P.info? e).map (fun i => (i.zero, i.size, i.bytes)) = some (some z, sz, by_)) (hz : z.cells.size = sz) (hb : Nat.ble by_ 1024 = true) (hl : l.length + tss.length ≤ 137438953472) (hL' : ∀ v', L.set i (ownSl v' sz e) = L' v') :
    OpC P L E ⟨dst, .call { callee := .builtin .append, args := #[.tmp x, y], argTypes := #[t, t] }, ty, pos, after, gd⟩ (fun v' => TAnd (Is v') (TSl sz (fun ts : List Ty => ts) (l.map f ++ tss))) L' := oc_appendT i hx hL hy hu hinf hz (upto_bytes hb hl) hL'
/-- append onto nil what is written out. -/
theorem oc_appendNT {tss : List (List Ty)} (hx : Opd E x = some (Is (.slice none 0 0))) (hy : Opd E y = some (TSlX sz (fun ts : List Ty => ts) tss))
    (hu : P.underlying t = some (.slice e)) (hinf : (P.info? e).map (fun i => (i.zero, i.size, i.bytes)) = some (some z, sz, by_)) (hz : z.cells.size = sz) (hb : Nat.ble by_ 1024 = true) (hl : tss.length ≤ 137438953472) (hL' : ∀ v', L ++ [ownSl v' sz e] = L' v') :
    OpC P L E ⟨dst, .call { callee := .builtin .append, args := #[x, y], argTypes := #[t, t] }, ty, pos, after, gd⟩ (fun v' => TAnd (Is v') (TSl sz (fun ts : List Ty => ts) tss)) L' := oc_appendNil' hx hy (Sub.slx rfl) hu hinf hz hb hl hL'
/-- A call that hands back a slice that is one's own. -/
theorem oc_callO {f : FuncId} {A : List Ty} {sz : Nat} {T : Ty} {e : TypeId} {xs : List Operand} {tys : Array TypeId} {L' : Value → List Res} (hf : CallsC P f A [] (fun v => TAnd (Is v) T) (fun v => [ownSl v sz e])) (zx : OpdsS E xs A) (zL : ∀ v, L ++ [ownSl v sz e] = L' v) :
    OpC P L E ⟨dst, .call { callee := .value (.func f), args := xs.toArray, argTypes := tys }, ty, pos, after, gd⟩ (fun v => TAnd (Is v) T) L' := by
  have := op_callR (P := P) (L := L) (E := E) (dst := dst) (ty := ty) (pos := pos) (after := after) (gd := gd) (tys := tys) (is := []) hf zx PickL.nil rfl (fun _ => Nat.zero_le _)
  simpa only [updL, zL] using this
end
end Go.Vk
