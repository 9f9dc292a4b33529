/-
  A range over a function: the round's frame, the loop's record as something of one's own, the end with a mark among the deferred calls. Nothing here speaks of a program; no conditions.
  The contracts of slices.Backward and of the function that it hands back, for a row of a name's parts.
  The library's contracts of strings.ReplaceAll, strings.Cut and strings.Count laid at this program.
-/
import Derived.Test.YtphakclfahianaaDoorGaf
import Derived.Test.YtphakclfahianaaDoorGah
import Derived.Test.YtphakclfahianaaDoorGad
import Derived.RangeFuncRecord
import Derived.OrdersIn
import Derived.TacticsIn
import Derived.Test.YtphakclfahianaaDoorGak
import Derived.Test.YtphakclfahianaaDoorRows
import Derived.Test.YtphakclfahianaaDoorGaj
import Derived.Shelf.Strings.SplitShaped
import Derived.Shelf.Strings.Cut
import Derived.Shelf.Strings.Count
import Derived.Ground.NamesProg
set_option linter.unusedSimpArgs false
set_option linter.unusedVariables false
set_option linter.unusedVariables false
namespace Go.Vk

/-! ### what holds of an operation holds of it in a round -/
abbrev WRo (ro : Option Nat) : Fence := { Fence.wide with round := ro }
def noDef (o : Oper) : Bool := match o.op with | .defer _ => false | _ => true
theorem noDef.out {o : Oper} (h : noDef o = true) : ∀ c, o.op ≠ .defer c := fun c e => by simp [noDef, e] at h

theorem wpIn_of_op {ro : Option Nat} {P : Program} {o : Oper} {a : Act} {w : World} {K K' : Act → World → Prop} {Q Q' : Exit → Act → World → Prop} (hd : ∀ c, o.op ≠ .defer c) (hk : ∀ a w, K a w → K' a w)
    (hp : ∀ c a w, Q (.panic c) a w → Q' (.panic c) a w) (hl : LetsOut Q → LetsOut Q') (h : o.wp P a w K Q) : o.wpIn (WRo ro) 0 P a w K' Q' := by
  refine ⟨fun _ _ => trivial, ?_⟩
  unfold Oper.wp at h
  rw [Oper.semAt_eq _ _ _ hd]
  generalize (execOp a.eval o).run P w = r at h ⊢
  cases r with
  | ok x w' =>
    cases x <;> simp only [Oper.upon, Oper.uponIn] at h ⊢
    case value => exact hk _ _ h
    case skip => exact hk _ _ h
    case defer => exact hk _ _ h
    case enter f args =>
      refine ⟨fun hd => by simp [Fence.wide] at hd, ?_⟩
      exact (callsIn_wide (n := 0 - 1)).2 (Calls.mono h fun e w'' he => by
        cases e with
        | returned v => exact hk _ _ he
        | panicked c => exact hp _ _ _ he
        | outgrown => exact hl he)
    case row row args =>
      refine ⟨fun hd => by simp [Fence.wide] at hd, fun c cs _ => ?_⟩
      obtain ⟨v, w'', r, s⟩ := h c cs
      exact ⟨v, w'', hk _ _ r, stepsIn_wide.2 s⟩
  | halt x w' =>
    cases x <;> simp only [Oper.upon, Oper.uponIn] at h ⊢
    case panic v => exact hp _ _ _ h

/-- What stands behind the first operations. -/
def QY (ro : Option Nat) (P : Program) (ops : Array Oper) (Q : Exit → Act → World → Prop) (rest : List Oper) : Exit → Act → World → Prop
  | .normal, a, w => wpListIn (WRo ro) 0 P ops Q rest a w
  | _, _, _ => False
def QN (Q : Exit → Act → World → Prop) : Exit → Act → World → Prop
  | .normal, a, w => Q .normal a w
  | _, _, _ => False

theorem QN_eq (ro : Option Nat) (P : Program) (ops : Array Oper) (Q : Exit → Act → World → Prop) : QN Q = QY ro P ops Q [] := by
  funext e a w
  cases e <;> rfl

theorem wpListIn_of {ro : Option Nat} {P : Program} {ops : Array Oper} {Q : Exit → Act → World → Prop} {rest : List Oper} : ∀ (l1 : List Oper) (a : Act) (w : World), l1.all noDef = true → wpList P ops (QY ro P ops Q rest) l1 a w → wpListIn (WRo ro) 0 P ops Q (l1 ++ rest) a w
  | [], a, w, _, h => h
  | o :: l1, a, w, hd, h => by
    simp only [List.all_cons, Bool.and_eq_true] at hd
    simp only [wpList] at h
    simp only [List.cons_append, wpListIn]
    split
    · rename_i hw
      rw [if_pos hw] at h
      rcases h with h | ⟨_, a', w', hlo⟩
      · exact wpIn_of_op (noDef.out hd.1) (fun a w k => wpListIn_of l1 a w hd.2 k) (fun _ _ _ q => q.elim) (fun ⟨_, _, q⟩ => q.elim) h
      · exact hlo.elim
    · rename_i hw
      rw [if_neg hw] at h
      exact ⟨fun _ _ => trivial, wpListIn_of l1 _ _ hd.2 h⟩

theorem wpAnyIn_of {ro : Option Nat} {P : Program} {md : Region.Mode} {ops : Array Oper} {Q : Exit → Act → World → Prop} (hd : ∀ (i : Nat) (o : Oper), ops[i]? = some o → noDef o = true) : ∀ (fuel : Nat) (listed : Array Bool) (a : Act) (w : World), wpAny P md ops (QN Q) fuel listed a w → wpAnyIn (WRo ro) 0 P md ops Q fuel listed a w
  | 0, listed, a, w, h => h
  | fuel + 1, listed, a, w, h => ⟨fun e => h.1 e, fun i hi => by
    have h2 := h.2 i hi
    unfold wpOp at h2
    unfold wpOpIn
    split
    · rename_i e; rw [e] at h2; exact wpAnyIn_of hd fuel _ a w h2
    · rename_i o e
      rw [e] at h2
      dsimp only at h2
      split
      · rename_i hw
        rw [if_pos hw] at h2
        rcases h2 with h2 | ⟨_, a', w', hlo⟩
        · exact wpIn_of_op (noDef.out (hd i o e)) (fun a w k => wpAnyIn_of hd fuel _ a w k) (fun _ _ _ q => q.elim) (fun ⟨_, _, q⟩ => q.elim) h2
        · exact hlo.elim
      · rename_i hw
        rw [if_neg hw] at h2
        exact ⟨fun _ _ => trivial, wpAnyIn_of hd fuel _ _ w h2⟩⟩

theorem RegS.qn {F : FCtx} {ops : Array Oper} {Q : Exit → Act → World → Prop} : ∀ (l : List Oper) (E : Env) (L : List Res), RegS F ops Q l E L → RegS F ops (QN Q) l E L
  | [], _, _, h => h
  | _ :: rest, _, _, .inl ⟨T, h1, h2, h3⟩ => .inl ⟨T, h1, h2, RegS.qn rest _ _ h3⟩
  | _ :: rest, _, _, .inr ⟨T, L', h1, h2, h3, h4⟩ => .inr ⟨T, L', h1, h2, h3, fun v => RegS.qn rest _ _ (h4 v)⟩

/-! ### code in a round's frame -/
def HTI (l : Nat) (F : FCtx) (E : Env) (L : List Res) (c : Code) (Q : Exit → Act → World → Prop) : Prop :=
  ∀ a w G S, Inv F L G w S → Typed F.N E G a → c.wpIn (WRo (some l)) 0 F.P Q a w
section
variable {l : Nat} {F : FCtx} {E : Env} {L : List Res} {Q : Exit → Act → World → Prop} {id : Nat}
theorem HTI.region {ops : List Oper} (hE : E.okB F.N = true) (hd : ops.all noDef = true) (h : RegS F ops.toArray (QN Q) ops E L) : HTI l F E L (.region id ops.toArray false) Q := fun a w G S hi ht =>
  wpIn_region_lit (by
    have h1 := RegS.sound ops E L h (Env.okB.lt hE) a w G S hi ht
    rw [QN_eq (some l) F.P ops.toArray Q] at h1
    have h2 := wpListIn_of (ro := some l) (Q := Q) (rest := []) ops a w hd h1
    simpa using h2)
theorem HTI.block {c : Code} (h : HTI l F E L c (Exit.inBlock id Q)) : HTI l F E L (.block id c) Q := fun a w G S hi ht => wpIn_block (h a w G S hi ht)
theorem HTI.regionM {ops : List Oper} {pl : List PlanE} (hpl : Plan id pl) (hm : F.P.follows .mixedOrders = true) (hE : E.okB F.N = true) (hN : (ops.all (dstB F.N)) = true) (hd : ops.all noDef = true) (hc : chkM ops.toArray pl .leaf = true)
    (h : RegM F ops.toArray (fun E' L' => HX F E' L' (QN Q) .normal) pl E L) : HTI l F E L (.region id ops.toArray true) Q := by
  intro a w G S hi ht
  refine wpIn_region_any hm (wpAnyIn_of (fun i o e => ?_) _ _ _ _ ?_)
  · exact List.all_eq_true.1 hd o (by simpa using Array.mem_of_getElem? e)
  have hdrew : Ext noZ G w G { w with drawn := w.drawn + 1 } := ⟨fun b o v hb => hi.ext.sat b o v hb, Imm.le.refl G, rfl, rfl, rfl, Nat.le_refl _, fun _ _ _ => ⟨rfl, fun _ => rfl⟩⟩
  have hno : ∀ i, (Array.replicate ops.toArray.size false).getD i false = false := fun i => by
    simp only [Array.getD_eq_getD_getElem?, Array.getElem?_replicate]
    split <;> rfl
  obtain ⟨hc2, hc3, hc4, hc5⟩ := chkM.facts hc
  refine wpM_of (F := F) (ops := ops.toArray) (E := E) (pl0 := pl) hc3 (by simpa using hN) hE (fun _ _ h => h) _ [] .leaf (frOf []) _ _ _ G L L S (by simpa using hc2) (by simpa using hc4) hc5 (fun i hi => by simp [frOf] at hi) (fun x hx => by simp at hx) (fun i hi => ?_) (hi.step0 hdrew) ht.size ht.defers (by simp) (fun i o ho hl => ?_) (fun d T hd _ => ht.get d T hd) ?_ ?_
  · rw [hno] at hi; cases hi
  · rw [hno] at hl; cases hl
  · rw [List.append_nil]; exact GoodM.start pl E L h (fun x _ => hno x.1)
  · simp only [unlisted, Array.toList_replicate]
    exact Nat.le_trans (List.length_filter_le _ _) (by simp)
end

/-! ### the loop's record -/
theorem cell_obj {w : World} {b : Nat} {o : Nat} {v : Value} (h : w.cell? ⟨b, o, none⟩ = some v) : ∃ x f e, w.heap[b]? = some (.cells x f e) := by
  unfold World.cell? at h
  cases ho : w.heap[b]? with
  | none => simp [ho] at h
  | some x => cases x <;> simp_all
def loopR (l : Nat) (r : Loop) : Res := ⟨fun S G w => (∀ b, S b ↔ b = l) ∧ w.heap[l]? = some (.loop r), fun {S G w G' w'} h _ k => ⟨h.1, (k l ((h.1 l).2 rfl)).1.trans h.2⟩⟩

theorem putObj_sat {G : Imm} {w : World} {l : Nat} {o o' : Obj} (hs : Sat G w) (hl : w.heap[l]? = some o) (hc : ∀ x f e, o ≠ .cells x f e) : Sat G (w.putObj l o') := by
  intro b k v e
  have h := hs b k v e
  have hb : b ≠ l := by
    rintro rfl
    obtain ⟨x, f, e', h'⟩ := cell_obj h
    rw [hl] at h'; exact hc x f e' (by simpa using h')
  rw [← h]
  unfold World.cell?
  rw [World.putObj_heap_other hb]

theorem Inv.putLoop {F : FCtx} {L : List Res} {G : Imm} {w : World} {S : Nat → Nat → Prop} {l : Nat} {r : Loop} (r' : Loop) (hi : Inv F (loopR l r :: L) G w S) : Inv F (loopR l r' :: L) G (w.putObj l (.loop r')) S := by
  have h0 := hi.owns.res 0 _ rfl
  have hl : w.heap[l]? = some (.loop r) := h0.2
  have hlt : l < w.heap.size := (Array.getElem?_eq_some_iff.1 hl).1
  have hS : S 0 l := (h0.1 l).2 rfl
  have hext : Ext (fun b => ∃ i, S i b) G w G (w.putObj l (.loop r')) := ⟨putObj_sat hi.ext.sat hl (by simp), Imm.le.refl G, rfl, rfl, rfl, by simp, fun b hb hn => ⟨World.putObj_heap_other (fun e => hn ⟨0, e ▸ hS⟩), fun _ => rfl⟩⟩
  refine hi.step hext ⟨fun i b hb => by simpa using hi.owns.bound i b hb, hi.owns.disj, hi.owns.inL, fun i x hx => ?_⟩ (fun i b hb => .inr ⟨i, hb⟩)
  cases i with
  | zero =>
    simp at hx; subst hx
    exact ⟨h0.1, World.putObj_heap_same hlt⟩
  | succ i =>
    refine x.loc (hi.owns.res (i + 1) x hx) (Imm.le.refl G) fun b hb => ⟨World.putObj_heap_other (fun e => ?_), fun _ => rfl⟩
    subst e
    exact absurd (hi.owns.disj _ _ _ hb hS) (by omega)

/-! ### one round -/
structure RoundC (P : Program) (l : Nat) (r : Loop) (A : List Ty) (L L' : List Res) : Prop where
  run : ∀ (vs : List Value) (w : World) (G : Imm) (S : Nat → Nat → Prop), Sat G w → Owns S (loopR l r :: L) G w → ArgsT G A vs → RoundIn Fence.wide 0 P l r.fn ((r.params.zip vs.toArray).foldl (fun t (p, v) => t.setIfInBounds p v) r.tmps) r.assign r.body w (RetR w G S (fun _ => Is (.bool true)) (fun _ => loopR l r :: L'))

def QAs (l : Nat) (P : Program) (body : Code) (Q : Exit → Act → World → Prop) : Exit → Act → World → Prop :=
  Exit.then (fun a1 w1 => ∃ w2, (Instr.beginRound l).run P w1 = .ok () w2 ∧ body.wpIn (WRo (some l)) 0 P Q a1 w2) (fun _ _ _ => False)

theorem HX.begin {l : Nat} {r : Loop} {F : FCtx} {E : Env} {L : List Res} {body : Code} {Q : Exit → Act → World → Prop} (hr : r.state = .ready) (h : HTI l F E (loopR l { r with state := .busy } :: L) body Q) : HX F E (loopR l r :: L) (QN (QAs l F.P body Q)) .normal := fun a w G S hi ht =>
  ⟨_, run_beginRound (hi.owns.res 0 _ rfl).2 hr, h a _ G S (hi.putLoop _) ht⟩

theorem HX.endR {l : Nat} {r : Loop} {P : Program} {N : Nat} {w0 : World} {G0 : Imm} {S0 : Nat → Nat → Prop} {E : Env} {L' : List Res} {id : Nat} (hr : r.state = .ready) (hp : r.pending = none) :
    HX (FC P N w0 G0 S0) E (loopR l { r with state := .busy } :: L') (QN (Exit.inBlock id (roundPost P l (RetR w0 G0 S0 (fun _ => Is (.bool true)) (fun _ => loopR l r :: L'))))) .normal := by
  intro a w G S hi ht
  have hl := (hi.owns.res 0 _ rfl).2
  have hi' := hi.putLoop r
  have e : ({ ({ r with state := .busy } : Loop) with state := if (none : Option Code).isNone then .ready else .done, pending := none } : Loop) = r := by
    obtain ⟨st, pe, _, _, _, _, _, _⟩ := r
    subst hr; subst hp; rfl
  have h2 := run_endRound (P := P) none hl
  rw [e] at h2
  exact ⟨_, _, h2, _, G, S, rfl, hi'.ext, hi'.owns, fun i b hb => (hi'.mine i b hb).symm, rfl⟩

theorem HX.endRT {l : Nat} {r : Loop} {P : Program} {N : Nat} {w0 : World} {G0 : Imm} {S0 : Nat → Nat → Prop} {E : Env} {L2 L' : List Res} {id : Nat} (hr : r.state = .ready) (hp : r.pending = none) (hto : To L2 (loopR l { r with state := .busy } :: L')) :
    HX (FC P N w0 G0 S0) E L2 (QN (Exit.inBlock id (roundPost P l (RetR w0 G0 S0 (fun _ => Is (.bool true)) (fun _ => loopR l r :: L'))))) .normal := fun a w G S hi ht =>
  let ⟨is, hd, hk⟩ := hto.to
  HX.endR (E := E) hr hp a w G _ (hi.pickX hd hk) ht

theorem RoundC.of {P : Program} {l : Nat} {r : Loop} {A : List Ty} {L L' : List Res} {N : Nat} (E0 : Env) (ht : ∀ (vs : List Value) (G : Imm), ArgsT G A vs → Typed N E0 G { tmps := (r.params.zip vs.toArray).foldl (fun t (p, v) => t.setIfInBounds p v) r.tmps, defers := [] })
    (h : ∀ w0 G0 S0, HTI l (FC P N w0 G0 S0) E0 (loopR l r :: L) r.assign (QAs l P r.body (roundPost P l (RetR w0 G0 S0 (fun _ => Is (.bool true)) (fun _ => loopR l r :: L'))))) : RoundC P l r A L L' :=
  ⟨fun vs w G S hs ho ha => roundIn_of_wpIn trivial (h w G S _ w G S ⟨Ext.refl hs, ho, fun i b hb => .inl ⟨i, hb⟩⟩ (ht vs G ha))⟩

theorem RoundC.of2 {P : Program} {l : Nat} {p q : Tmp} {N d : Nat} {fn : FuncId} {tmps : Array Value} {assign body : Code} {T U : Ty} {L L' : List Res} (E : Env) (hp : p < N) (hq : q < N) (hb : ∀ G, Typed N E G { tmps := tmps, defers := [] })
    (h : ∀ w0 G0 S0, HTI l (FC P N w0 G0 S0) ((q, U) :: (p, T) :: E) (loopR l { state := .ready, pending := none, fn, tmps, params := #[p, q], assign, body, defers := d } :: L) assign
      (QAs l P body (roundPost P l (RetR w0 G0 S0 (fun _ => Is (.bool true)) (fun _ => loopR l { state := .ready, pending := none, fn, tmps, params := #[p, q], assign, body, defers := d } :: L'))))) :
    RoundC P l { state := .ready, pending := none, fn, tmps, params := #[p, q], assign, body, defers := d } [T, U] L L' := by
  refine RoundC.of ((q, U) :: (p, T) :: E) (fun vs G ha => ?_) h
  match vs, ha with
  | [v, u], ⟨h1, h2, _⟩ =>
    have e : ((#[p, q] : Array Tmp).zip [v, u].toArray).foldl (fun t (p, v) => t.setIfInBounds p v) tmps = (tmps.setIfInBounds p v).setIfInBounds q u := by simp
    show Typed N _ G { tmps := ((#[p, q] : Array Tmp).zip [v, u].toArray).foldl (fun t (p, v) => t.setIfInBounds p v) tmps, defers := [] }
    rw [e]
    exact ((hb G).put (d := some p) (fun k e => by cases e; exact hp) h1).put (d := some q) (fun k e => by cases e; exact hq) h2

/-! ### the call of yield -/
def OpCI (P : Program) (L : List Res) (E : Env) (o : Oper) (T : Value → Ty) (L' : Value → List Res) : Prop :=
  ∀ (a : Act) (w : World) (G : Imm) (S : Nat → Nat → Prop), Sat G w → Owns S L G w → TypedO E G a o → ∀ (K : Act → World → Prop) (Q : Exit → Act → World → Prop),
    (∀ v w' G' S', Ext (fun b => ∃ i, S i b) G w G' w' → Owns S' (L' v) G' w' → (∀ i b, S' i b → w.heap.size ≤ b ∨ ∃ j, S j b) → (T v).p G' v → K (a.put o.dst v) w') → o.wpIn (WRo none) 0 P a w K Q

theorem op_yield {P : Program} {l : Nat} {r : Loop} {A : List Ty} {L L' : List Res} {E : Env} {xs : List Operand} {t : Tmp} {tys : Array TypeId} {dst : Option Tmp} {ty : TypeId} {pos : String} {after : Array Edge} {gd : Option (Nat × Bool)}
    (hr : RoundC P l r A L L') (ht : E.get t = some (Is (.func (.yield l) #[] #[]))) (hx : Opds E xs A) (hsz : xs.length = r.params.size) :
    OpCI P (loopR l r :: L) E ⟨dst, .call { callee := .value (.tmp t), args := xs.toArray, argTypes := tys }, ty, pos, after, gd⟩ (fun _ => Is (.bool true)) (fun _ => loopR l r :: L') := by
  intro a w G S hs ho hto K Q k
  refine ⟨fun _ _ => trivial, ?_⟩
  have hl := (ho.res 0 _ rfl).2
  have hv : a.eval (.tmp t) = .func (.yield l) #[] #[] := hto (.tmp t) (by simp [Op.operands, Call.operands]) _ ht
  have hy := run_yield (P := P) (args := (xs.map a.eval).toArray) hl (by simpa using hsz)
  have hrun : (execOp a.eval (⟨dst, .call { callee := .value (.tmp t), args := xs.toArray, argTypes := tys }, ty, pos, after, gd⟩ : Oper)).run P w = .ok (.round l r.fn ((r.params.zip (xs.map a.eval).toArray).foldl (fun tmps (t, a) => tmps.setIfInBounds t a) r.tmps) r.assign r.body) w := by
    rw [← hy]
    simp [execOp, resolve, Deferred.ofValue, hv, invoke]
  rw [Oper.semAt_none, hrun]
  simp only [Oper.uponIn]
  refine ⟨fun hd => by simp [Fence.wide] at hd, ?_⟩
  refine RoundIn.mono (hr.run _ w G S hs ho (Opds.args xs A hx (fun x hx' => hto x (by simp [Op.operands, Call.operands, hx'])))) ?_
  rintro e w' ⟨v, G', S', rfl, h1, h2, h3, h4⟩
  exact k v w' G' S' h1 h2 h3 h4

section
variable {F : FCtx} {E : Env} {L : List Res} {Q : Exit → Act → World → Prop} {id : Nat} {ops : Array Oper}
theorem HT.regionY {l1 rest : List Oper} {y : Oper} (hE : E.okB F.N = true) (hd : l1.all noDef = true) (h : RegS F (l1 ++ y :: rest).toArray (QY none F.P (l1 ++ y :: rest).toArray Q (y :: rest)) l1 E L) : HT F E L (.region id (l1 ++ y :: rest).toArray false) Q := fun a w G S hi ht =>
  wpIn_wide.1 (wpIn_region_lit (F := WRo none) (n := 0) (wpListIn_of l1 a w hd (RegS.sound l1 E L h (Env.okB.lt hE) a w G S hi ht)))
theorem HX.yield {rest : List Oper} {y : Oper} {T : Value → Ty} {L2 : Value → List Res} (hg : y.guard = none) (hdst : dstB F.N y = true) (hE : ∀ v, (E.put y.dst (T v)).okB F.N = true) (hd : rest.all noDef = true) (hop : OpCI F.P L E y T L2)
    (h : ∀ v, RegS F ops (QN Q) rest (E.put y.dst (T v)) (L2 v)) : HX F E L (QY none F.P ops Q (y :: rest)) .normal := by
  intro a w G S hi ht
  show wpListIn _ _ _ _ _ _ _ _
  simp only [wpListIn]
  rw [if_pos (by simp [Region.wanted, hg])]
  refine hop a w G S hi.ext.sat hi.owns (ht.opds y) _ _ fun v w' G' S' he ho hs hv => ?_
  have h1 := RegS.sound rest _ _ (h v) (Env.okB.lt (hE v)) _ _ G' S' (hi.step he ho hs) ((ht.mono he.le).put (dstB.lt hdst) hv)
  rw [QN_eq none F.P ops Q] at h1
  have h2 := wpListIn_of (ro := none) (Q := Q) (rest := []) rest _ _ hd h1
  simpa using h2
end

/-! ### the statement -/
/-- The loop's record as it is laid. -/
abbrev recOf (fn : FuncId) (tmps : Array Value) (ps : Array Tmp) (assign body : Code) (d : Nat) : Loop := { state := .ready, pending := none, fn, tmps, params := ps, assign, body, defers := d }
structure TypedM (N D : Nat) (E : Env) (G : Imm) (a : Act) : Prop where
  size : a.tmps.size = N
  defers : a.defers = [{ target := .collected D, args := #[] }]
  get : ∀ t T, E.get t = some T → T.p G (a.tmps.getD t undef)
def HXM (F : FCtx) (E : Env) (L : List Res) (Q : Exit → Act → World → Prop) (e : Exit) : Prop :=
  ∀ D a w G S, Inv F L G w S → TypedM F.N D E G a → F.w0.heap.size ≤ D → w.heap[D]? = some (.deferred (some [])) → (∀ i, ¬ S i D) → Q e a w

theorem Ext.alloc2 {G : Imm} {w : World} (hs : Sat G w) (o o' : Obj) : Ext noZ G w G ((w.alloc o).alloc o') := by
  have hb : ∀ b, b < w.heap.size → ((w.alloc o).alloc o').heap[b]? = w.heap[b]? := fun b hb => (RowKit.Below.heap_alloc _ _ b (by simp; omega)).trans (RowKit.Below.heap_alloc _ _ b hb)
  refine ⟨fun b k v e => ?_, Imm.le.refl G, rfl, rfl, rfl, by simp; omega, fun b h _ => ⟨hb b h, fun _ => rfl⟩⟩
  have h := hs b k v e
  rw [← h]
  unfold World.cell?
  rw [hb b (hs.lt e)]

theorem HT.range {F : FCtx} {E : Env} {L L' : List Res} {Q : Exit → Act → World → Prop} {g : Tmp} {ps : Array Tmp} {assign body : Code} {gf : FuncId} {Cs : List Ty} {T : Value → Ty}
    (hg : E.get g = some (TFn gf Cs))
    (hcall : ∀ (fn l d : Nat) (tmps : Array Value) (G : Imm), tmps.size = F.N → (∀ t T, E.get t = some T → T.p G (tmps.getD t undef)) →
      CallsC F.P gf (Is (.func (.yield l) #[] #[]) :: Cs) (loopR l (recOf fn tmps ps assign body d) :: L) T (fun _ => loopR l (recOf fn tmps ps assign body d) :: L'))
    (k : HXM F E L' Q .normal) : HT F E L (.rangeFunc (.tmp g) ps assign body) Q := by
  intro a w G S hi ht
  refine (wpIn_wide (n := 0)).1 (wpIn_rangeFunc fun fn _ => ?_)
  obtain ⟨lb, hlb, hargs⟩ := ht.get g _ hg
  have hv : a.eval (.tmp g) = .func (.func gf) #[] lb.toArray := hlb
  obtain ⟨rec, hrec⟩ : ∃ rec, rec = recOf fn a.tmps ps assign body w.heap.size := ⟨_, rfl⟩
  obtain ⟨W1, hW1⟩ : ∃ W1, (w.alloc (.deferred (some []))).alloc (.loop rec) = W1 := ⟨_, rfl⟩
  have hL1 : W1.heap[w.heap.size + 1]? = some (.loop rec) := by
    rw [← hW1]; have := World.alloc_heap_new (w.alloc (.deferred (some []))) (.loop rec); rwa [World.size_alloc] at this
  have hK1 : W1.heap[w.heap.size]? = some (.deferred (some [])) := by
    rw [← hW1]; exact (RowKit.Below.heap_alloc _ _ _ (by simp)).trans (World.alloc_heap_new w _)
  have hsz : W1.heap.size = w.heap.size + 2 := by rw [← hW1]; simp
  have he1 : Ext noZ G w G W1 := by rw [← hW1]; exact Ext.alloc2 hi.ext.sat _ _
  have hc := hcall fn (w.heap.size + 1) w.heap.size a.tmps G ht.size ht.get
  rw [← hrec] at hc
  let S1 : Nat → Nat → Prop := fun i b => match i with | 0 => b = w.heap.size + 1 | i + 1 => S i b
  have ho0 : Owns S L G W1 := hi.owns.ext he1 (fun _ _ _ z => z)
  have ho1 : Owns S1 (loopR (w.heap.size + 1) rec :: L) G W1 := by
    refine ⟨fun i b hb => ?_, fun i j b hb hb' => ?_, fun i b hb => ?_, fun i r hr => ?_⟩
    · cases i with
      | zero => have hb : b = w.heap.size + 1 := hb; omega
      | succ i => exact ho0.bound i b hb
    · cases i with
      | zero =>
        cases j with
        | zero => rfl
        | succ j => have h1 : b = w.heap.size + 1 := hb; have h2 := hi.owns.bound j b hb'; omega
      | succ i =>
        cases j with
        | zero => have h1 : b = w.heap.size + 1 := hb'; have h2 := hi.owns.bound i b hb; omega
        | succ j => exact congrArg (· + 1) (ho0.disj i j b hb hb')
    · cases i with
      | zero => simp
      | succ i => have := ho0.inL i b hb; simp; omega
    · cases i with
      | zero => simp at hr; subst hr; exact ⟨fun b => Iff.rfl, hL1⟩
      | succ i => exact ho0.res i r (by simpa using hr)
  refine ⟨w.heap.size + 1, [{ target := .collected w.heap.size, args := #[] }], W1, { target := .fn (.func gf) lb.toArray, args := #[.func (.yield (w.heap.size + 1)) #[] #[]] }, W1, gf, ((.func (.yield (w.heap.size + 1)) #[] #[] :: lb).toArray), W1, ?_, ?_, fun _ _ => trivial, ?_, fun h => by simp [Fence.wide] at h, ?_⟩
  · rw [← hW1, hrec]; exact run_enterLoop_outer _ _ _ _ _
  · have hv2 : a.tmps[g]?.getD undef = .func (.func gf) #[] lb.toArray := by simpa [Act.eval] using hv
    simp [resolve, hv2, Deferred.ofValue, Act.eval]
  · simp [invoke, hc.enter]
  refine (callsIn_wide (n := 0 - 1)).2 ((hc.calls (.func (.yield (w.heap.size + 1)) #[] #[] :: lb) W1 G S1 he1.sat ho1 ⟨rfl, hargs⟩).mono ?_)
  rintro e W2 ⟨v, G', S', rfl, hext, ho2, hs2, hT⟩
  have hl2 := (ho2.res 0 _ rfl).2
  have hS0 := (ho2.res 0 _ rfl).1
  have hlt2 := (Array.getElem?_eq_some_iff.1 hl2).1
  have hK2 : W2.heap[w.heap.size]? = some (.deferred (some [])) := by
    refine (hext.blk w.heap.size (by omega) ?_).1.trans hK1
    rintro ⟨i, hb⟩
    cases i with
    | zero => have hb : w.heap.size = w.heap.size + 1 := hb; omega
    | succ i => have := hi.owns.bound i _ hb; omega
  have hend := run_endLoop (P := F.P) hl2 (by rw [hrec]; simp)
  have hpend : rec.pending = none := by rw [hrec]
  rw [hpend] at hend
  have hfr : ∀ i b, S' (i + 1) b → w.heap.size + 2 ≤ b ∨ ∃ j, S j b := fun i b hb => by
    rcases hs2 _ b hb with h | ⟨j, hj⟩
    · exact .inl (by omega)
    · cases j with
      | zero =>
        have h1 : b = w.heap.size + 1 := hj
        exact absurd (ho2.disj _ _ _ hb ((hS0 b).2 h1)) (by omega)
      | succ j => exact .inr ⟨j, hj⟩
  refine ⟨none, _, hend, ?_⟩
  have hne : w.heap.size ≠ w.heap.size + 1 := by omega
  refine k w.heap.size _ _ G' (fun i b => S' (i + 1) b) ?_ ⟨ht.size, by show _ ++ a.defers = _; rw [ht.defers]; rfl, fun t T e => T.mono hext.le (ht.get t T e)⟩ hi.ext.size ((World.putObj_heap_other hne).trans hK2) ?_
  · have hextAll : Ext (fun b => ∃ i, S i b) G w G' (W2.putObj (w.heap.size + 1) (.loop { rec with state := .exhausted, pending := none })) := by
      refine ⟨putObj_sat hext.sat hl2 (by simp), hext.le, hext.os.trans he1.os, hext.tape.trans he1.tape, hext.output.trans he1.output, by simp; omega, fun b hb hn => ?_⟩
      have h1 := he1.blk b hb (fun z => z)
      have h2 := hext.blk b (by omega) (by
        rintro ⟨i, hi'⟩
        cases i with
        | zero => have h : b = w.heap.size + 1 := hi'; omega
        | succ i => exact hn ⟨i, hi'⟩)
      exact ⟨(World.putObj_heap_other (by omega)).trans (h2.1.trans h1.1), fun o => h2.2 o⟩
    refine hi.step hextAll ⟨fun i b hb => by simpa using ho2.bound _ b hb, fun i j b hb hb' => by have := ho2.disj _ _ b hb hb'; omega, fun i b hb => by have := ho2.inL _ b hb; simpa using this, fun i r hr => ?_⟩ (fun i b hb => (hfr i b hb).imp (fun h => by omega) id)
    refine r.loc (ho2.res (i + 1) r (by simpa using hr)) (Imm.le.refl G') fun b hb => ⟨World.putObj_heap_other (fun e => ?_), fun _ => rfl⟩
    exact absurd (ho2.disj _ _ _ hb ((hS0 b).2 e)) (by omega)
  · intro i hb
    rcases hfr i _ hb with h | ⟨j, hj⟩
    · omega
    · have := hi.owns.bound j _ hj; omega

/-! ### behind the statement: a region, the function's end -/
def RegSM (F : FCtx) (ops : Array Oper) (Q : Exit → Act → World → Prop) : List Oper → Env → List Res → Prop
  | [], E, L => HXM F E L Q .normal
  | o :: rest, E, L =>
    (∃ T, o.guard = none ∧ dstB F.N o = true ∧ OpP F.P L E o T ∧ RegSM F ops Q rest (E.put o.dst T) L) ∨
    (∃ T L', o.guard = none ∧ dstB F.N o = true ∧ OpC F.P L E o T L' ∧ ∀ v, RegSM F ops Q rest (E.put o.dst (T v)) (L' v))

theorem TypedM.mono {N D : Nat} {E : Env} {G G' : Imm} {a : Act} (h : TypedM N D E G a) (k : Imm.le G G') : TypedM N D E G' a := ⟨h.size, h.defers, fun t T e => T.mono k (h.get t T e)⟩
theorem TypedM.opds {N D : Nat} {E : Env} {G : Imm} {a : Act} (h : TypedM N D E G a) (o : Oper) : TypedO E G a o := fun x _ T e => by
  cases x with
  | tmp t => exact h.get t T e
  | const v => cases e; rfl
  | global g => cases e; rfl
  | func f => cases e; rfl
theorem TypedM.put {N D : Nat} {E : Env} {G : Imm} {a : Act} (h : TypedM N D E G a) {d : Option Tmp} {T : Ty} {v : Value} (hd : ∀ k, d = some k → k < N) (hv : T.p G v) : TypedM N D (E.put d T) G (a.put d v) := by
  have h0 : Typed N E G { a with defers := [] } := ⟨h.size, rfl, h.get⟩
  have h1 := h0.put hd hv
  have e : (({ a with defers := [] } : Act).put d v).tmps = (a.put d v).tmps := by cases d <;> rfl
  exact ⟨e ▸ h1.size, (Act.put_defers' a d v).trans h.defers, fun t T' e' => by have := h1.get t T' e'; rwa [e] at this⟩

theorem RegSM.sound {F : FCtx} {ops : Array Oper} {Q : Exit → Act → World → Prop} : ∀ (l : List Oper) (E : Env) (L : List Res), RegSM F ops Q l E L →
    ∀ D a w G S, Inv F L G w S → TypedM F.N D E G a → F.w0.heap.size ≤ D → w.heap[D]? = some (.deferred (some [])) → (∀ i, ¬ S i D) → wpList F.P ops Q l a w
  | [], E, L, h, D, a, w, G, S, hi, ht, hD, hK, hn => h D a w G S hi ht hD hK hn
  | o :: rest, E, L, h, D, a, w, G, S, hi, ht, hD, hK, hn => by
    have hDw : D < w.heap.size := (Array.getElem?_eq_some_iff.1 hK).1
    rcases h with ⟨T, hg, hdst, hop, hrest⟩ | ⟨T, L', hg, hdst, hop, hrest⟩
    · refine wpList_step fun K hK' => ?_
      rw [if_pos (by simp [Region.wanted, hg])]
      refine hop a w G S hi.ext.sat hi.owns (ht.opds o) K Q fun v w' G' hext hv => ?_
      exact hK' _ _ (RegSM.sound rest _ L hrest D _ _ G' S (hi.step0 hext) ((ht.mono hext.le).put (dstB.lt hdst) hv) hD ((hext.blk D hDw (fun z => z)).1.trans hK) hn)
    · refine wpList_step fun K hK' => ?_
      rw [if_pos (by simp [Region.wanted, hg])]
      refine hop a w G S hi.ext.sat hi.owns (ht.opds o) K Q fun v w' G' S' hext ho' hs' hv => ?_
      refine hK' _ _ (RegSM.sound rest _ (L' v) (hrest v) D _ _ G' S' (hi.step hext ho' hs') ((ht.mono hext.le).put (dstB.lt hdst) hv) hD ((hext.blk D hDw (fun ⟨i, z⟩ => hn i z)).1.trans hK) fun i hb => ?_)
      rcases hs' i D hb with h | ⟨j, hj⟩
      · omega
      · exact hn j hj
theorem HXM.region {F : FCtx} {E : Env} {L : List Res} {Q Q' : Exit → Act → World → Prop} {id bl : Nat} {ops : List Oper} (h : RegSM F ops.toArray Q ops E L) : HXM F E L (Exit.inBlock bl (Exit.then ((Code.region id ops.toArray false).wp F.P Q) Q')) .normal := fun D a w G S hi ht hD hK hn =>
  wp_region_lit (RegSM.sound ops E L h D a w G S hi ht hD hK hn)

theorem HXM.tail {F : FCtx} {E : Env} {L : List Res} {Q Q' : Exit → Act → World → Prop} {id bl : Nat} {ops : List Oper} {c : Code} (h : RegSM F ops.toArray (Exit.then (c.wp F.P Q) Q) ops E L) : HXM F E L (Exit.inBlock bl (Exit.then ((Code.seq (.region id ops.toArray false) c).wp F.P Q) Q')) .normal := fun D a w G S hi ht hD hK hn =>
  wp_seq (wp_region_lit (RegSM.sound ops E L h D a w G S hi ht hD hK hn))
theorem HXM.ret {F : FCtx} {E : Env} {L : List Res} {Q Q' : Exit → Act → World → Prop} (h : HXM F E L Q .ret) : HXM F E L (Exit.then (Code.ret.wp F.P Q) Q') .normal := fun D a w G S hi ht hD hK hn => wp_ret (h D a w G S hi ht hD hK hn)

theorem HXM.done {P : Program} {N : Nat} {w0 : World} {G0 : Imm} {S0 : Nat → Nat → Prop} {fn : Func} {E : Env} {L : List Res} {U : Ty} {t : Tmp} {e : Exit} {g : Nat} (i : Nat) (he : e = .ret ∨ e = .normal) (hr : fn.results = #[.tmp t]) (hT : E.get t = some U) (hL : L[i]? = some (globR g)) :
    HXM (FC P N w0 G0 S0) E L (bodyPostM Fence.wide 0 P fn (RetR w0 G0 S0 (fun _ => U) (fun _ => [globR g]))) e := by
  intro D a w G S hi ht hD hK hn
  have key : LeavesInM Fence.wide 0 P fn a.tmps (RetR w0 G0 S0 (fun _ => U) (fun _ => [globR g])) a.defers .returning w := by
    rw [ht.defers]
    have hDw : D < w.heap.size := (Array.getElem?_eq_some_iff.1 hK).1
    refine ⟨by simp, .inl ⟨D, _, rfl, run_takeDeferred hK, ?_⟩⟩
    refine ⟨_, results_tmp hr _ _ _, _, G, fun _ _ => False, rfl, ⟨putObj_sat hi.ext.sat hK (by simp), hi.ext.le, hi.ext.os, hi.ext.tape, hi.ext.output, by simpa using hi.ext.size, fun b hb hz => ?_⟩, globR.owns (globR.get hi.owns hL), fun _ _ z => z.elim, ht.get t U hT⟩
    have hD' : w0.heap.size ≤ D := hD
    have h1 := hi.ext.blk b hb hz
    have hbl : b < w0.heap.size := hb
    exact ⟨(World.putObj_heap_other (by omega)).trans h1.1, h1.2⟩
  rcases he with rfl | rfl <;> exact key

/-- A function's contract where its body holds a range over a function. -/
theorem CallsC.ofM {P : Program} {L : List Res} {f : FuncId} {fn : Func} {c : Code} {A : List Ty} {T : Value → Ty} {L' : Value → List Res} {N : Nat} (henter : ∀ args w, (callFunc f args).run P w = .ok (.enter f args) w) (hf : P.funcs[f]? = some fn) (hb : fn.body = some c) (hN : fn.ntmps = N) (hA : Nat.ble A.length N = true)
    (h : ∀ w0 G0 S0, Sat G0 w0 → Owns S0 L G0 w0 → HT (FC P N w0 G0 S0) (Env.args 0 A) L c (bodyPostM Fence.wide 0 P fn (RetR w0 G0 S0 T L'))) : CallsC P f A L T L' := by
  refine ⟨henter, fun vs w G S hs ho ha => ?_⟩
  refine (callsIn_wide (n := 0)).1 (callsIn_of_wp_marks hf hb trivial (wpIn_wide.2 ?_))
  obtain ⟨hlen, hget⟩ := ArgsT.get A vs ha
  have hA' := Nat.le_of_ble_eq_true hA
  refine h w G S hs ho _ w G S ⟨Ext.refl hs, ho, fun i b hb => .inl ⟨i, hb⟩⟩ ⟨?_, rfl, ?_⟩
  · simp [hN]; omega
  · intro t U e
    obtain ⟨_, h2⟩ := Env.args_get A 0 t U e
    obtain ⟨v, h3, h4⟩ := hget t U (by simpa using h2)
    have ht : t < vs.length := (List.getElem?_eq_some_iff.1 h3).1
    rw [Array.getD_eq_getD_getElem?, Array.getElem?_append_left (by simpa using ht)]
    simpa [h3] using h4
end Go.Vk
set_option maxRecDepth 8000
set_option linter.unusedVariables false
namespace Go.Proofs.YtphakclfahianaaDoor
open Go.Vk
attribute [local irreducible] HT HX RegS RegA RegM OpP OpC AltT
set_option maxHeartbeats 2000000 in
theorem dkBack1 (l : List Dn.Ava) (hl : l.length ≤ 134217728) (lp : Nat) (r : Loop) (hps : r.params.size = 2) (Rk : Nat → Res)
    (hr : ∀ k, k < l.length → RoundC Tryd.prog lp r [okI .i64 ((l.length : Int) - 1 - (k : Int)), TAgg (Dn.cAva (l.getD ((l.length : Int) - 1 - (k : Int)).toNat default))] [globR 0, Rk k] [globR 0, Rk (k + 1)]) :
    CallsC Tryd.prog 37 [Is (.func (.yield lp) #[] #[]), TPc [TSl 2 Dn.cAva l]] [loopR lp r, globR 0, Rk 0] (fun _ => TTup []) (fun _ => [loopR lp r, globR 0, Rk l.length]) := by
  have st := Stop.mk' 3
  refine CallsC.of Tryd.call37 Tryd.func37 rfl Tryd.ntmps37 rfl fun w0 G0 S0 hs ho => ?_
  refine run ?_
  refine HT.loopX (σ := Nat) [0, 1] (fun k => [(3, okI .i64 ((l.length : Int) - 1 - (k : Int)))]) (fun k => [loopR lp r, globR 0, Rk k]) (fun k => k ≤ l.length) (fun k => l.length - k) 0 (Nat.zero_le _) (run trivial) (run trivial) ?_
  rintro k hk
  by_cases hlt : k < l.length
  · refine run ?_
    intros
    refine HTs.mk ?_
    refine HT.regionY (l1 := [_, _, _, _, _, _]) (rest := [_]) rfl rfl ?_
    refine run ?_
    refine HX.yield rfl rfl (fun _ => rfl) rfl (op_yield (hr k hlt) rfl (.cons rfl (.cons rfl .nil)) (by rw [hps]; rfl)) (fun v => RegS.qn _ _ _ ?_)
    refine run ?_
    intro _
    exact HX.roundX (k + 1) ⟨by omega, by omega⟩ rfl (run trivial) (run trivial)
  · have e : k = l.length := by omega
    subst e
    exact run trivial
theorem dkBack2 (l : List Dn.Ava) (hl : l.length ≤ 134217728) (lp : Nat) (r : Loop) (hps : r.params.size = 2) (Rk : Nat → Res) {R0 R1 : Res} (h0 : Rk 0 = R0) (h1 : Rk l.length = R1)
    (hr : ∀ k, k < l.length → RoundC Tryd.prog lp r [okI .i64 ((l.length : Int) - 1 - (k : Int)), TAgg (Dn.cAva (l.getD ((l.length : Int) - 1 - (k : Int)).toNat default))] [globR 0, Rk k] [globR 0, Rk (k + 1)]) :
    CallsC Tryd.prog 37 [Is (.func (.yield lp) #[] #[]), TPc [TSl 2 Dn.cAva l]] [loopR lp r, globR 0, R0] (fun _ => TTup []) (fun _ => [loopR lp r, globR 0, R1]) := by
  subst h0; subst h1
  exact dkBack1 l hl lp r hps Rk hr
theorem dkBackward (l : List Dn.Ava) : CFn Tryd.prog 24 [TSl 2 Dn.cAva l] (TFn 37 [TPc [TSl 2 Dn.cAva l]]) := by
  refine CallsC.of Tryd.call24 Tryd.func24 rfl Tryd.ntmps24 rfl fun w0 G0 S0 hs ho => ?_
  exact run trivial
end Go.Proofs.YtphakclfahianaaDoor
set_option linter.unusedVariables false
namespace Go.Proofs.YtphakclfahianaaDoor
open Go.Shelf Go.RowKit Go.Lib Go.Proofs Go.Vk
def Tryd.layRep_ren : Go.Shelf.Ren := ⟨fun | 155 => 29 | 154 => 41 | 138 => 34 | 165 => 50 | 143 => 47 | 166 => 26 | 197 => 51 | 169 => 27 | 195 => 45 | 218 => 46 | 240 => 39 | 241 => 59 | 219 => 49 | 260 => 60 | 276 => 48 | 277 => 63 | 217 => 55 | 225 => 56 | 224 => 57 | 267 => 58 | 266 => 61 | 314 => 62 | n => n, fun | 9 => 9 | 3 => 3 | 4 => 4 | 72 => 42 | 0 => 0 | 76 => 48 | 105 => 68 | 21 => 21 | 5 => 5 | 70 => 39 | 20 => 20 | 37 => 40 | 75 => 47 | 127 => 60 | 164 => 65 | 46 => 72 | 119 => 77 | 139 => 80 | 138 => 79 | 146 => 74 | 51 => 73 | 80 => 50 | n => n, fun | 1 => 0 | 3 => 1 | 4 => 2 | n => n⟩
theorem Tryd.layRep : Go.Proofs.LaysM.n155 Tryd.prog Tryd.layRep_ren := {
  mixed := by kernel_rfl
  f138 := Tryd.func34.trans (congrArg some (by kernel_rfl))
  f143 := Tryd.func47.trans (congrArg some (by kernel_rfl))
  f154 := Tryd.func41.trans (congrArg some (by kernel_rfl))
  f155 := Tryd.func29.trans (congrArg some (by kernel_rfl))
  f165 := Tryd.func50.trans (congrArg some (by kernel_rfl))
  f166 := Tryd.func26.trans (congrArg some (by kernel_rfl))
  f169 := Tryd.func27.trans (congrArg some (by kernel_rfl))
  f195 := Tryd.func45.trans (congrArg some (by kernel_rfl))
  f197 := Tryd.func51.trans (congrArg some (by kernel_rfl))
  f217 := Tryd.func55.trans (congrArg some (by kernel_rfl))
  f218 := Tryd.func46.trans (congrArg some (by kernel_rfl))
  f219 := Tryd.func49.trans (congrArg some (by kernel_rfl))
  f224 := Tryd.func57.trans (congrArg some (by kernel_rfl))
  f225 := Tryd.func56.trans (congrArg some (by kernel_rfl))
  f240 := Tryd.func39.trans (congrArg some (by kernel_rfl))
  f241 := Tryd.func59.trans (congrArg some (by kernel_rfl))
  f260 := Tryd.func60.trans (congrArg some (by kernel_rfl))
  f266 := Tryd.func61.trans (congrArg some (by kernel_rfl))
  f267 := Tryd.func58.trans (congrArg some (by kernel_rfl))
  f276 := Tryd.func48.trans (congrArg some (by kernel_rfl))
  f277 := Tryd.func63.trans (congrArg some (by kernel_rfl))
  f314 := Tryd.func62.trans (congrArg some (by kernel_rfl))
  t0 := Tryd.underlying0
  a0 := Tryd.isAgg0
  z0 := Tryd.sizeOf0
  v0 := Tryd.zeroValue0
  t3 := Tryd.underlying3
  a3 := Tryd.isAgg3
  z3 := Tryd.sizeOf3
  v3 := Tryd.zeroValue3
  t4 := Tryd.underlying4
  a4 := Tryd.isAgg4
  z4 := Tryd.sizeOf4
  v4 := Tryd.zeroValue4
  t5 := Tryd.underlying5
  a5 := Tryd.isAgg5
  z5 := Tryd.sizeOf5
  v5 := Tryd.zeroValue5
  t9 := Tryd.underlying9
  a9 := Tryd.isAgg9
  z9 := Tryd.sizeOf9
  v9 := Tryd.zeroValue9
  t20 := Tryd.underlying20
  a20 := Tryd.isAgg20
  z20 := Tryd.sizeOf20
  v20 := Tryd.zeroValue20
  t21 := Tryd.underlying21
  a21 := Tryd.isAgg21
  z21 := Tryd.sizeOf21
  v21 := Tryd.zeroValue21
  t37 := Tryd.underlying40
  a37 := Tryd.isAgg40
  z37 := Tryd.sizeOf40
  v37 := Tryd.zeroValue40
  t46 := Tryd.underlying72
  a46 := Tryd.isAgg72
  z46 := Tryd.sizeOf72
  v46 := Tryd.zeroValue72
  t51 := Tryd.underlying73
  a51 := Tryd.isAgg73
  z51 := Tryd.sizeOf73
  v51 := Tryd.zeroValue73
  t70 := Tryd.underlying39
  a70 := Tryd.isAgg39
  z70 := Tryd.sizeOf39
  v70 := Tryd.zeroValue39
  t72 := Tryd.underlying42
  a72 := Tryd.isAgg42
  z72 := Tryd.sizeOf42
  v72 := Tryd.zeroValue42
  t75 := Tryd.underlying47
  a75 := Tryd.isAgg47
  z75 := Tryd.sizeOf47
  v75 := Tryd.zeroValue47
  t76 := Tryd.underlying48
  a76 := Tryd.isAgg48
  z76 := Tryd.sizeOf48
  v76 := Tryd.zeroValue48
  t105 := Tryd.underlying68
  a105 := Tryd.isAgg68
  z105 := Tryd.sizeOf68
  v105 := Tryd.zeroValue68
  t119 := Tryd.underlying77
  a119 := Tryd.isAgg77
  z119 := Tryd.sizeOf77
  t127 := Tryd.underlying60
  a127 := Tryd.isAgg60
  z127 := Tryd.sizeOf60
  v127 := Tryd.zeroValue60
  t138 := Tryd.underlying79
  a138 := Tryd.isAgg79
  z138 := Tryd.sizeOf79
  v138 := Tryd.zeroValue79
  t139 := Tryd.underlying80
  a139 := Tryd.isAgg80
  z139 := Tryd.sizeOf80
  v139 := Tryd.zeroValue80
  t146 := Tryd.underlying74
  a146 := Tryd.isAgg74
  z146 := Tryd.sizeOf74
  v146 := Tryd.zeroValue74
  t164 := Tryd.underlying65
  a164 := Tryd.isAgg65
  z164 := Tryd.sizeOf65
  v164 := Tryd.zeroValue65
  g1 := by kernel_rfl
  g3 := by kernel_rfl
  g4 := by kernel_rfl
  t80 := Tryd.underlying50
  a80 := Tryd.isAgg50
  z80 := Tryd.sizeOf50
  v80 := Tryd.zeroValue50
  i0 := by kernel_rfl
  i3 := by kernel_rfl
  i4 := by kernel_rfl
  i5 := by kernel_rfl
  i9 := by kernel_rfl
  i20 := by kernel_rfl
  i21 := by kernel_rfl
  i37 := by kernel_rfl
  i46 := by kernel_rfl
  i51 := by kernel_rfl
  i70 := by kernel_rfl
  i72 := by kernel_rfl
  i75 := by kernel_rfl
  i76 := by kernel_rfl
  i80 := by kernel_rfl
  i105 := by kernel_rfl
  i127 := by kernel_rfl
  i138 := by kernel_rfl
  i139 := by kernel_rfl
  i146 := by kernel_rfl
  i164 := by kernel_rfl
  m1 := by kernel_rfl
  s1_3 := fun w h => Go.Proofs.cell_of_shapedOpen_int (zero := #[.int .i64 0]) (t := 3) h (of_decide_eq_true (by kernel_rfl)) (by kernel_rfl) rfl (by kernel_rfl) (by kernel_rfl) Tryd.underlying3
  m3 := by kernel_rfl
  m4 := by kernel_rfl }
def Tryd.layCut_ren : Go.Shelf.Ren := ⟨fun | 145 => 28 | 220 => 40 | 219 => 49 | 217 => 55 | 225 => 56 | 224 => 57 | 267 => 58 | 266 => 61 | 314 => 62 | n => n, fun | 9 => 9 | 4 => 4 | 59 => 51 | 3 => 3 | 5 => 5 | 46 => 72 | 146 => 74 | 51 => 73 | n => n, fun | 1 => 0 | n => n⟩
theorem Tryd.layCut : Go.Proofs.Lays.n145 Tryd.prog Tryd.layCut_ren := {
  mixed := by kernel_rfl
  f145 := Tryd.func28.trans (congrArg some (by kernel_rfl))
  f217 := Tryd.func55.trans (congrArg some (by kernel_rfl))
  f219 := Tryd.func49.trans (congrArg some (by kernel_rfl))
  f220 := Tryd.func40.trans (congrArg some (by kernel_rfl))
  f224 := Tryd.func57.trans (congrArg some (by kernel_rfl))
  f225 := Tryd.func56.trans (congrArg some (by kernel_rfl))
  f266 := Tryd.func61.trans (congrArg some (by kernel_rfl))
  f267 := Tryd.func58.trans (congrArg some (by kernel_rfl))
  f314 := Tryd.func62.trans (congrArg some (by kernel_rfl))
  t3 := Tryd.underlying3
  a3 := Tryd.isAgg3
  z3 := Tryd.sizeOf3
  v3 := Tryd.zeroValue3
  t4 := Tryd.underlying4
  a4 := Tryd.isAgg4
  z4 := Tryd.sizeOf4
  v4 := Tryd.zeroValue4
  t5 := Tryd.underlying5
  a5 := Tryd.isAgg5
  z5 := Tryd.sizeOf5
  v5 := Tryd.zeroValue5
  t9 := Tryd.underlying9
  a9 := Tryd.isAgg9
  z9 := Tryd.sizeOf9
  v9 := Tryd.zeroValue9
  t46 := Tryd.underlying72
  a46 := Tryd.isAgg72
  z46 := Tryd.sizeOf72
  v46 := Tryd.zeroValue72
  t51 := Tryd.underlying73
  a51 := Tryd.isAgg73
  z51 := Tryd.sizeOf73
  v51 := Tryd.zeroValue73
  t59 := Tryd.underlying51
  a59 := Tryd.isAgg51
  z59 := Tryd.sizeOf51
  v59 := Tryd.zeroValue51
  t146 := Tryd.underlying74
  a146 := Tryd.isAgg74
  z146 := Tryd.sizeOf74
  v146 := Tryd.zeroValue74
  g1 := by kernel_rfl }
def Tryd.layCnt_ren : Go.Shelf.Ren := ⟨fun | 138 => 34 | 195 => 45 | 218 => 46 | 143 => 47 | 219 => 49 | 217 => 55 | 225 => 56 | 224 => 57 | 267 => 58 | 266 => 61 | 314 => 62 | n => n, fun | 9 => 9 | 3 => 3 | 4 => 4 | 5 => 5 | 0 => 0 | 46 => 72 | 146 => 74 | 51 => 73 | n => n, fun | 1 => 0 | n => n⟩
theorem Tryd.layCnt : Go.Proofs.Lays.n138 Tryd.prog Tryd.layCnt_ren := {
  mixed := by kernel_rfl
  f138 := Tryd.func34.trans (congrArg some (by kernel_rfl))
  f143 := Tryd.func47.trans (congrArg some (by kernel_rfl))
  f195 := Tryd.func45.trans (congrArg some (by kernel_rfl))
  f217 := Tryd.func55.trans (congrArg some (by kernel_rfl))
  f218 := Tryd.func46.trans (congrArg some (by kernel_rfl))
  f219 := Tryd.func49.trans (congrArg some (by kernel_rfl))
  f224 := Tryd.func57.trans (congrArg some (by kernel_rfl))
  f225 := Tryd.func56.trans (congrArg some (by kernel_rfl))
  f266 := Tryd.func61.trans (congrArg some (by kernel_rfl))
  f267 := Tryd.func58.trans (congrArg some (by kernel_rfl))
  f314 := Tryd.func62.trans (congrArg some (by kernel_rfl))
  t0 := Tryd.underlying0
  a0 := Tryd.isAgg0
  z0 := Tryd.sizeOf0
  v0 := Tryd.zeroValue0
  t3 := Tryd.underlying3
  a3 := Tryd.isAgg3
  z3 := Tryd.sizeOf3
  v3 := Tryd.zeroValue3
  t4 := Tryd.underlying4
  a4 := Tryd.isAgg4
  z4 := Tryd.sizeOf4
  v4 := Tryd.zeroValue4
  t5 := Tryd.underlying5
  a5 := Tryd.isAgg5
  z5 := Tryd.sizeOf5
  v5 := Tryd.zeroValue5
  t9 := Tryd.underlying9
  a9 := Tryd.isAgg9
  z9 := Tryd.sizeOf9
  v9 := Tryd.zeroValue9
  t46 := Tryd.underlying72
  a46 := Tryd.isAgg72
  z46 := Tryd.sizeOf72
  v46 := Tryd.zeroValue72
  t51 := Tryd.underlying73
  a51 := Tryd.isAgg73
  z51 := Tryd.sizeOf73
  v51 := Tryd.zeroValue73
  t146 := Tryd.underlying74
  a146 := Tryd.isAgg74
  z146 := Tryd.sizeOf74
  v146 := Tryd.zeroValue74
  g1 := by kernel_rfl }
theorem extraRep : Builder.Extra Tryd.prog Tryd.layRep_ren where
  sizeBuilder := by kernel_rfl
  liesBuilder := by kernel_rfl
  t5 := Tryd.layRep.t5
  a5 := Tryd.layRep.a5
  z5 := Tryd.layRep.z5
  v5 := Tryd.layRep.v5
  infoByte := by kernel_rfl
  cellsByte := by kernel_rfl
  sizeByte := by kernel_rfl
  neB5 := by decide
theorem maxLenCell (w : World) (h : w.ShapedOpen Tryd.prog) : ∃ m, w.cell? ⟨0, 0, none⟩ = some (.int .i64 m) := Tryd.layRep.s1_3 w h
theorem stReplaceAll (s old new : List UInt8) (h1 : 1 ≤ old.length) (hs : s.length < 4294967281) (hc : s.length + Lib.count s old * new.length ≤ 140737488355328) :
    CFnG 0 Tryd.prog 29 [Is (str s), Is (str old), Is (str new)] (Is (str (Lib.replaceAll s old new))) := by
  refine CFnG.of (u := str (Lib.replaceAll s old new)) Tryd.call29 (fun vs w G m ha hm => ?_) (fun G => rfl)
  match vs, ha with
  | [v1, v2, v3], ⟨e1, e2, e3, _⟩ =>
    cases e1; cases e2; cases e3
    refine (Any.strings_ReplaceAll { Tryd.layRep with } extraRep ⟨s.toArray⟩ ⟨old.toArray⟩ ⟨new.toArray⟩ m w ?_ hm ?_ ?_).mono fun e w' h => h
    · exact hs
    · exact h1
    · exact hc
theorem below_drewN (w : World) (n : Nat) : Below w.heap.size w (w.drewN n) := by
  refine ⟨rfl, rfl, rfl, Nat.le_refl _, fun k hk => rfl⟩
theorem stCut (s sep : List UInt8) (hs : s.length < 4294967281) :
    CFnG 0 Tryd.prog 28 [Is (str s), Is (str sep)] (TTup [Is (str (Lib.cut s sep).1), Is (str (Lib.cut s sep).2.1), Is (.bool (Lib.cut s sep).2.2)]) := by
  refine CFnG.of (u := .tuple #[str (Lib.cut s sep).1, str (Lib.cut s sep).2.1, .bool (Lib.cut s sep).2.2]) Tryd.call28 (fun vs w G m ha hm => ?_) (fun G => ?_)
  · match vs, ha with
    | [v1, v2], ⟨e1, e2, _⟩ =>
      cases e1; cases e2
      refine (Any.strings_Cut Tryd.layCut ⟨s.toArray⟩ ⟨sep.toArray⟩ m w ?_ hm).mono ?_
      · exact hs
      · rintro e w' ⟨h, n, rfl⟩
        exact ⟨h, below_drewN w n⟩
  · refine ⟨[_, _, _], rfl, rfl, fun j T u h1 h2 => ?_⟩
    match j, h1, h2 with
    | 0, h1, h2 => cases h1; cases h2; rfl
    | 1, h1, h2 => cases h1; cases h2; rfl
    | 2, h1, h2 => cases h1; cases h2; rfl
theorem stCount (s sub : List UInt8) (h2 : 2 ≤ sub.length) (hs : s.length < 4294967281) :
    CFnG 0 Tryd.prog 34 [Is (str s), Is (str sub)] (okI .i64 (Lib.count s sub : Int)) := by
  refine CFnG.of (u := .int .i64 (Lib.count s sub : Int)) Tryd.call34 (fun vs w G m ha hm => ?_) (fun G => rfl)
  match vs, ha with
  | [v1, v2], ⟨e1, e2, _⟩ =>
    cases e1; cases e2
    refine (Any.strings_Count Tryd.layCnt ⟨s.toArray⟩ ⟨sub.toArray⟩ m w ?_ hm ?_).mono ?_
    · exact hs
    · exact h2
    · rintro e w' ⟨h, rfl⟩
      exact ⟨h, Below.refl _ _⟩
#print axioms stReplaceAll
end Go.Proofs.YtphakclfahianaaDoor
