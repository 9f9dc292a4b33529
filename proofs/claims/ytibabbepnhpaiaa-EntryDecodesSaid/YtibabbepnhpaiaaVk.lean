/-
  A small program logic over the kit's walk rules: typed slots, a persistent heap, owned resources. Nothing here speaks of a program; no conditions.
-/
import Derived.WalkKit
import Derived.Orders
set_option linter.unusedVariables false
namespace Go.Vk

/-! ### the persistent heap -/
abbrev Imm := Nat → Nat → Option Value
def Imm.le (G G' : Imm) : Prop := ∀ b o v, G b o = some v → G' b o = some v
theorem Imm.le.refl (G : Imm) : Imm.le G G := fun _ _ _ h => h
theorem Imm.le.trans {A B C : Imm} (h : Imm.le A B) (k : Imm.le B C) : Imm.le A C := fun b o v e => k b o v (h b o v e)
def Sat (G : Imm) (w : World) : Prop := ∀ b o v, G b o = some v → w.cell? ⟨b, o, none⟩ = some v
theorem Sat.lt {G : Imm} {w : World} (h : Sat G w) {b o : Nat} {v : Value} (e : G b o = some v) : b < w.heap.size := by
  have := h b o v e
  exact World.block_lt_of_cell? w ⟨b, o, none⟩ this

/-- What a slot holds. -/
structure Ty where
  p : Imm → Value → Prop
  mono : ∀ {G G' : Imm} {v : Value}, Imm.le G G' → p G v → p G' v

/-- From (G, w) to (G', w'): of what was there only blocks in Z may have changed. -/
structure Ext (Z : Nat → Prop) (G : Imm) (w : World) (G' : Imm) (w' : World) : Prop where
  sat : Sat G' w'
  le : Imm.le G G'
  os : w'.os = w.os
  tape : w'.tape = w.tape
  output : w'.output = w.output
  size : w.heap.size ≤ w'.heap.size
  blk : ∀ b, b < w.heap.size → ¬ Z b → w'.heap[b]? = w.heap[b]? ∧ ∀ o, G' b o = G b o

def noZ : Nat → Prop := fun _ => False

theorem Ext.refl {Z : Nat → Prop} {G : Imm} {w : World} (h : Sat G w) : Ext Z G w G w := ⟨h, Imm.le.refl G, rfl, rfl, rfl, Nat.le_refl _, fun _ _ _ => ⟨rfl, fun _ => rfl⟩⟩

theorem Ext.trans {X Z : Nat → Prop} {G0 G G' : Imm} {w0 w w' : World} (h : Ext X G0 w0 G w) (k : Ext Z G w G' w') (hz : ∀ b, Z b → X b ∨ w0.heap.size ≤ b) : Ext X G0 w0 G' w' :=
  ⟨k.sat, h.le.trans k.le, k.os.trans h.os, k.tape.trans h.tape, k.output.trans h.output, Nat.le_trans h.size k.size, fun b hb hx => by
    obtain ⟨e1, e2⟩ := h.blk b hb hx
    obtain ⟨e3, e4⟩ := k.blk b (Nat.lt_of_lt_of_le hb h.size) (fun hzb => (hz b hzb).elim hx (fun hle => by omega))
    exact ⟨e3.trans e1, fun o => (e4 o).trans (e2 o)⟩⟩

theorem Ext.trans0 {X : Nat → Prop} {G0 G G' : Imm} {w0 w w' : World} (h : Ext X G0 w0 G w) (k : Ext noZ G w G' w') : Ext X G0 w0 G' w' :=
  h.trans k (fun _ hz => hz.elim)

theorem Ext.below {G G' : Imm} {w w' : World} (h : Ext noZ G w G' w') : RowKit.Below w.heap.size w w' :=
  ⟨h.os, h.tape, h.output, h.size, fun k hk => (h.blk k hk (fun z => z)).1⟩

/-! ### owned resources -/
structure Res where
  p : (Nat → Prop) → Imm → World → Prop
  loc : ∀ {S : Nat → Prop} {G : Imm} {w : World} {G' : Imm} {w' : World}, p S G w → Imm.le G G' → (∀ b, S b → w'.heap[b]? = w.heap[b]? ∧ ∀ o, G' b o = G b o) → p S G' w'

structure Owns (S : Nat → Nat → Prop) (L : List Res) (G : Imm) (w : World) : Prop where
  bound : ∀ i b, S i b → b < w.heap.size
  disj : ∀ i j b, S i b → S j b → i = j
  inL : ∀ i b, S i b → i < L.length
  res : ∀ (i : Nat) (r : Res), L[i]? = some r → r.p (S i) G w

theorem Owns.ext {S : Nat → Nat → Prop} {L : List Res} {Z : Nat → Prop} {G : Imm} {w : World} {G' : Imm} {w' : World} (h : Owns S L G w) (k : Ext Z G w G' w') (hz : ∀ i b, S i b → ¬ Z b) : Owns S L G' w' :=
  ⟨fun i b hs => Nat.lt_of_lt_of_le (h.bound i b hs) k.size, h.disj, h.inL, fun i r hr => r.loc (h.res i r hr) k.le (fun b hs => k.blk b (h.bound i b hs) (hz i b hs))⟩

/-! ### the environment -/
abbrev Env := List (Nat × Ty)
def Env.get : Env → Nat → Option Ty
  | [], _ => none
  | (k, T) :: r, t => bif Nat.beq k t then some T else Env.get r t
def Is (v : Value) : Ty := ⟨fun _ x => x = v, fun _ h => h⟩
def Opd (E : Env) : Operand → Option Ty
  | .tmp t => E.get t
  | .const v => some (Is v)
  | .global g => some (Is (.pointer (some ⟨g, 0, none⟩)))
  | .func f => some (Is (.func (.func f) #[] #[]))
def Env.put (E : Env) : Option Tmp → Ty → Env
  | some d, T => (d, T) :: E
  | none, _ => E

structure Typed (N : Nat) (E : Env) (G : Imm) (a : Act) : Prop where
  size : a.tmps.size = N
  defers : a.defers = []
  get : ∀ t T, E.get t = some T → T.p G (a.tmps.getD t undef)

/-- The operands of an operation are as E says. -/
def TypedO (E : Env) (G : Imm) (a : Act) (o : Oper) : Prop := ∀ x ∈ o.op.operands, ∀ T, Opd E x = some T → T.p G (a.eval x)

theorem Typed.mono {N : Nat} {E : Env} {G G' : Imm} {a : Act} (h : Typed N E G a) (k : Imm.le G G') : Typed N E G' a :=
  ⟨h.size, h.defers, fun t T e => T.mono k (h.get t T e)⟩

theorem Typed.opd {N : Nat} {E : Env} {G : Imm} {a : Act} (h : Typed N E G a) (x : Operand) {T : Ty} (e : Opd E x = some T) : T.p G (a.eval x) := by
  cases x with
  | tmp t => exact h.get t T e
  | const v => cases e; rfl
  | global g => cases e; rfl
  | func f => cases e; rfl

theorem Typed.opds {N : Nat} {E : Env} {G : Imm} {a : Act} (h : Typed N E G a) (o : Oper) : TypedO E G a o := fun x _ _ e => h.opd x e

theorem Act.put_size (a : Act) (d : Option Tmp) (v : Value) : (a.put d v).tmps.size = a.tmps.size := by cases d <;> simp [Act.put]
theorem Act.put_defers' (a : Act) (d : Option Tmp) (v : Value) : (a.put d v).defers = a.defers := by cases d <;> rfl
theorem Act.put_getD (a : Act) (d t : Nat) (v : Value) (hd : d < a.tmps.size) : (a.put (some d) v).tmps.getD t undef = if d = t then v else a.tmps.getD t undef := by
  simp only [Act.put, Array.getD_eq_getD_getElem?, Array.getElem?_setIfInBounds]
  by_cases h : d = t
  · subst h; simp [hd]
  · simp [h]

theorem Typed.put {N : Nat} {E : Env} {G : Imm} {a : Act} (h : Typed N E G a) {d : Option Tmp} {T : Ty} {v : Value} (hd : ∀ k, d = some k → k < N) (hv : T.p G v) : Typed N (E.put d T) G (a.put d v) := by
  refine ⟨(Act.put_size a d v).trans h.size, (Act.put_defers' a d v).trans h.defers, ?_⟩
  cases d with
  | none => exact h.get
  | some k =>
    intro t T' e
    rw [Act.put_getD a k t v (by rw [h.size]; exact hd k rfl)]
    by_cases hk : k = t
    · subst hk
      simp only [Env.put, Env.get, Nat.beq_refl, cond_true, Option.some.injEq] at e
      subst e
      simpa using hv
    · have : Nat.beq k t = false := Bool.eq_false_iff.2 (fun h => hk (Nat.eq_of_beq_eq_true h))
      simp only [Env.put, Env.get, this, cond_false] at e
      simpa [hk] using h.get t T' e

/-! ### one operation -/
/-- An operation that leaves all that is there as it is; it may lay new blocks. -/
def OpP (P : Program) (L : List Res) (E : Env) (o : Oper) (T : Ty) : Prop :=
  ∀ (a : Act) (w : World) (G : Imm) (S : Nat → Nat → Prop), Sat G w → Owns S L G w → TypedO E G a o → ∀ (K : Act → World → Prop) (Q : Exit → Act → World → Prop),
    (∀ v w' G', Ext noZ G w G' w' → T.p G' v → K (a.put o.dst v) w') → o.wp P a w K Q

/-- An operation that may turn what is owned. -/
def OpC (P : Program) (L : List Res) (E : Env) (o : Oper) (T : Value → Ty) (L' : Value → List Res) : Prop :=
  ∀ (a : Act) (w : World) (G : Imm) (S : Nat → Nat → Prop), Sat G w → Owns S L G w → TypedO E G a o → ∀ (K : Act → World → Prop) (Q : Exit → Act → World → Prop),
    (∀ v w' G' S', Ext (fun b => ∃ i, S i b) G w G' w' → Owns S' (L' v) G' w' → (∀ i b, S' i b → w.heap.size ≤ b ∨ ∃ j, S j b) → (T v).p G' v → K (a.put o.dst v) w') → o.wp P a w K Q

theorem OpC.of_P {P : Program} {L : List Res} {E : Env} {o : Oper} {T : Ty} (h : OpP P L E o T) : OpC P L E o (fun _ => T) (fun _ => L) := by
  intro a w G S hs ho ht K Q k
  refine h a w G S hs ho ht K Q fun v w' G' he hv => ?_
  exact k v w' G' S ⟨he.sat, he.le, he.os, he.tape, he.output, he.size, fun b hb _ => he.blk b hb (fun z => z)⟩ (ho.ext he (fun _ _ _ z => z)) (fun i b hs => .inr ⟨i, hs⟩) hv

/-- The world stays. -/
theorem OpP.same {P : Program} {L : List Res} {E : Env} {o : Oper} {T : Ty}
    (h : ∀ (a : Act) (w : World) (G : Imm) (S : Nat → Nat → Prop), Sat G w → Owns S L G w → TypedO E G a o → ∃ v, (execOp a.eval o).run P w = .ok (.value v) w ∧ T.p G v) : OpP P L E o T := by
  intro a w G S hs ho ht K Q k
  obtain ⟨v, hr, hv⟩ := h a w G S hs ho ht
  simp only [Oper.wp, hr, Oper.upon_value]
  exact k v w G (Ext.refl hs) hv

/-- Some blocks are laid. -/
theorem OpP.laid {P : Program} {L : List Res} {E : Env} {o : Oper} {T : Ty}
    (h : ∀ (a : Act) (w : World) (G : Imm) (S : Nat → Nat → Prop), Sat G w → Owns S L G w → TypedO E G a o → ∃ v w' G', (execOp a.eval o).run P w = .ok (.value v) w' ∧ Ext noZ G w G' w' ∧ T.p G' v) : OpP P L E o T := by
  intro a w G S hs ho ht K Q k
  obtain ⟨v, w', G', hr, he, hv⟩ := h a w G S hs ho ht
  simp only [Oper.wp, hr, Oper.upon_value]
  exact k v w' G' he hv

/-! ### guards -/
def TIf (c : Prop) (T : Ty) : Ty := ⟨fun G v => (c → T.p G v) ∧ (¬ c → v = undef), fun h k => ⟨fun hc => T.mono h (k.1 hc), k.2⟩⟩
/-- A slot of type T is the bool 'want' just where c. -/
def GuardT (T : Ty) (want : Bool) (c : Prop) : Prop := ∀ G v, T.p G v → (c → v = .bool want) ∧ (v = .bool want → c)

theorem GuardT.is (b want : Bool) : GuardT (Is (.bool b)) want (b = want) := by
  intro G v h
  simp only [Is] at h; subst h
  exact ⟨fun e => by rw [e], fun e => by simpa using e⟩
theorem GuardT.nest (c : Prop) (b want : Bool) : GuardT (TIf c (Is (.bool b))) want (c ∧ b = want) := by
  intro G v h
  refine ⟨fun e => by rw [h.1 e.1, e.2], fun e => ?_⟩
  by_cases hc : c
  · refine ⟨hc, ?_⟩
    have := h.1 hc
    simp only [Is] at this
    rw [this] at e
    simpa using e
  · rw [h.2 hc] at e
    simp [undef] at e

/-- An operation with its guard: its slot's type as the rest of the region sees it. -/
def OpG (P : Program) (ops : Array Oper) (L : List Res) (E : Env) (o : Oper) (T : Ty) : Prop :=
  match o.guard with
  | none => OpP P L E o T
  | some (j, want) => ∃ d Tg c T', (ops[j]?).bind (·.dst) = some d ∧ E.get d = some Tg ∧ GuardT Tg want c ∧ (c → OpP P L E o T') ∧ T = TIf c T'

theorem OpG.free {P : Program} {ops : Array Oper} {L : List Res} {E : Env} {o : Oper} {T : Ty} (hg : o.guard = .none) (h : OpP P L E o T) : OpG P ops L E o T := by
  unfold OpG; rw [hg]; exact h

theorem OpG.guarded {P : Program} {ops : Array Oper} {L : List Res} {E : Env} {o : Oper} {j : Nat} {want : Bool} {d : Nat} {Tg : Ty} {c : Prop} {T' : Ty} (hg : o.guard = .some (j, want))
    (hd : (ops[j]?).bind (·.dst) = .some d) (he : E.get d = .some Tg) (hc : GuardT Tg want c) (h : c → OpP P L E o T') : OpG P ops L E o (TIf c T') := by
  unfold OpG; rw [hg]; exact ⟨d, Tg, c, T', hd, he, hc, h, rfl⟩

def dstB (N : Nat) (o : Oper) : Bool := match o.dst with | none => true | some k => Nat.blt k N
theorem dstB.lt {N : Nat} {o : Oper} (h : dstB N o = true) : ∀ k, o.dst = some k → k < N := by
  intro k e
  simp only [dstB, e] at h
  exact Nat.le_of_ble_eq_true h

/-! ### a function's frame of reference -/
structure FCtx where
  P : Program
  N : Nat
  w0 : World
  G0 : Imm
  X : Nat → Prop

structure Inv (F : FCtx) (L : List Res) (G : Imm) (w : World) (S : Nat → Nat → Prop) : Prop where
  ext : Ext F.X F.G0 F.w0 G w
  owns : Owns S L G w
  mine : ∀ i b, S i b → F.X b ∨ F.w0.heap.size ≤ b

theorem Inv.step {F : FCtx} {L L' : List Res} {G G' : Imm} {w w' : World} {S S' : Nat → Nat → Prop} (h : Inv F L G w S) (k : Ext (fun b => ∃ i, S i b) G w G' w') (ho : Owns S' L' G' w') (hs : ∀ i b, S' i b → w.heap.size ≤ b ∨ ∃ j, S j b) : Inv F L' G' w' S' :=
  ⟨h.ext.trans k (fun b ⟨i, hb⟩ => h.mine i b hb), ho, fun i b hb => (hs i b hb).elim (fun h' => .inr (Nat.le_trans h.ext.size h')) (fun ⟨j, hj⟩ => h.mine j b hj)⟩
theorem Inv.step0 {F : FCtx} {L : List Res} {G G' : Imm} {w w' : World} {S : Nat → Nat → Prop} (h : Inv F L G w S) (k : Ext noZ G w G' w') : Inv F L G' w' S :=
  ⟨h.ext.trans0 k, h.owns.ext k (fun _ _ _ z => z), h.mine⟩

/-- The goal behind a piece of code: at the exit e, in every state that E and L allow. -/
def HX (F : FCtx) (E : Env) (L : List Res) (Q : Exit → Act → World → Prop) (e : Exit) : Prop :=
  ∀ a w G S, Inv F L G w S → Typed F.N E G a → Q e a w
/-- A piece of code, in every state that E and L allow. -/
def HT (F : FCtx) (E : Env) (L : List Res) (c : Code) (Q : Exit → Act → World → Prop) : Prop :=
  ∀ a w G S, Inv F L G w S → Typed F.N E G a → c.wp F.P Q a w

/-! ### a region in the text's order -/
/-- The operation is surely run: it bears no guard, or its guard is known to say yes. -/
def GdOk (ops : Array Oper) (E : Env) (o : Oper) : Prop :=
  o.guard = none ∨ ∃ j want d Tg c, o.guard = some (j, want) ∧ (ops[j]?).bind (·.dst) = some d ∧ E.get d = some Tg ∧ GuardT Tg want c ∧ c
def RegS (F : FCtx) (ops : Array Oper) (Q : Exit → Act → World → Prop) : List Oper → Env → List Res → Prop
  | [], E, L => HX F E L Q .normal
  | o :: rest, E, L =>
    (∃ T, dstB F.N o = true ∧ OpG F.P ops L E o T ∧ RegS F ops Q rest (E.put o.dst T) L) ∨
    (∃ T L', GdOk ops E o ∧ dstB F.N o = true ∧ OpC F.P L E o T L' ∧ ∀ v, RegS F ops Q rest (E.put o.dst (T v)) (L' v))

theorem yielded_of {ops : Array Oper} {a : Act} {j d : Nat} {N : Nat} (hd : (ops[j]?).bind (·.dst) = some d) (hs : a.tmps.size = N) (hN : d < N) (b : Bool) :
    yielded ops a.tmps j = some b ↔ a.tmps.getD d undef = .bool b := by
  unfold yielded
  rw [hd]
  have hx : a.tmps[d]? = some (a.tmps.getD d undef) := by
    rw [Array.getD_eq_getD_getElem?]
    have : d < a.tmps.size := by omega
    simp [Array.getElem?_eq_getElem this]
  simp only [Option.bind_some, hx]
  cases a.tmps.getD d undef <;> simp

theorem OpG.step {F : FCtx} {ops : Array Oper} {L : List Res} {E : Env} {o : Oper} {T : Ty} {Q : Exit → Act → World → Prop} {K : Act → World → Prop} (h : OpG F.P ops L E o T)
    {a : Act} {w : World} {G : Imm} {S : Nat → Nat → Prop} (hs : Sat G w) (ho : Owns S L G w) (hto : TypedO E G a o)
    (hy : ∀ j want d, o.guard = some (j, want) → (ops[j]?).bind (·.dst) = some d → ∀ Tg, E.get d = some Tg → Tg.p G (a.tmps.getD d undef) ∧ (yielded ops a.tmps j = some want ↔ a.tmps.getD d undef = .bool want))
    (k : ∀ v w' G', Ext noZ G w G' w' → T.p G' v → K (a.put o.dst v) w') :
    if Region.wanted o (yielded ops a.tmps) then o.wp F.P a w K Q else K (a.put o.dst undef) w := by
  unfold OpG at h
  cases hg : o.guard with
  | none =>
    rw [hg] at h
    rw [if_pos (by simp [Region.wanted, hg])]
    exact h a w G S hs ho hto K Q k
  | some jw =>
    obtain ⟨j, want⟩ := jw
    rw [hg] at h
    obtain ⟨d, Tg, c, T', hd, he, hc, hop, rfl⟩ := h
    obtain ⟨hTg, hyy⟩ := hy j want d hg hd Tg he
    have hcc := hc G _ hTg
    by_cases hw : yielded ops a.tmps j = some want
    · rw [if_pos (by simp [Region.wanted, hg, hw])]
      have hcond := hcc.2 (hyy.1 hw)
      exact hop hcond a w G S hs ho hto K Q fun v w' G' hext hv => k v w' G' hext ⟨fun _ => hv, fun hn => absurd hcond hn⟩
    · rw [if_neg (by simp [Region.wanted, hg, hw])]
      exact k _ w G (Ext.refl hs) ⟨fun hcond => (hw (hyy.2 (hcc.1 hcond))).elim, fun _ => rfl⟩

theorem RegS.sound {F : FCtx} {ops : Array Oper} {Q : Exit → Act → World → Prop} : ∀ (l : List Oper) (E : Env) (L : List Res), RegS F ops Q l E L → (∀ d T, E.get d = some T → d < F.N) →
    ∀ a w G S, Inv F L G w S → Typed F.N E G a → wpList F.P ops Q l a w
  | [], E, L, h, _, a, w, G, S, hi, ht => h a w G S hi ht
  | o :: rest, E, L, h, hE, a, w, G, S, hi, ht => by
    have hEp : ∀ T, dstB F.N o = true → ∀ d T', (E.put o.dst T).get d = some T' → d < F.N := by
      intro T hdst d T' e
      cases hd : o.dst with
      | none => rw [hd] at e; exact hE d T' e
      | some k =>
        rw [hd] at e
        simp only [Env.put, Env.get] at e
        by_cases hk : Nat.beq k d = true
        · exact Nat.eq_of_beq_eq_true hk ▸ dstB.lt hdst k hd
        · simp only [Bool.not_eq_true] at hk; rw [hk] at e; exact hE d T' e
    rcases h with ⟨T, hdst, hop, hrest⟩ | ⟨T, L', hg, hdst, hop, hrest⟩
    · refine wpList_step fun K hK => ?_
      refine OpG.step (F := F) (L := L) (E := E) (T := T) hop hi.ext.sat hi.owns (ht.opds o) ?_ ?_
      · intro j want d _ hd Tg he
        exact ⟨ht.get d Tg he, yielded_of hd ht.size (hE d Tg he) want⟩
      · intro v w' G' hext hv
        exact hK _ _ (RegS.sound rest _ L hrest (hEp T hdst) _ _ G' S (hi.step0 hext) ((ht.mono hext.le).put (dstB.lt hdst) hv))
    · refine wpList_step fun K hK => ?_
      have hw : Region.wanted o (yielded ops a.tmps) = true := by
        rcases hg with hg | ⟨j, want, d, Tg, c, hg, hd, he, hc, hcc⟩
        · simp [Region.wanted, hg]
        · have h1 := (hc G _ (ht.get d Tg he)).1 hcc
          have h2 := (yielded_of hd ht.size (hE d Tg he) want).2 h1
          simp [Region.wanted, hg, h2]
      rw [if_pos hw]
      refine hop a w G S hi.ext.sat hi.owns (ht.opds o) K Q fun v w' G' S' hext ho' hs' hv => ?_
      exact hK _ _ (RegS.sound rest _ (L' v) (hrest v) (hEp (T v) hdst) _ _ G' S' (hi.step hext ho' hs') ((ht.mono hext.le).put (dstB.lt hdst) hv))

/-! ### code -/
/-- All slots that the environment names lie in the frame. -/
def Env.okB (N : Nat) (E : Env) : Bool := E.all fun x => Nat.blt x.1 N
theorem Env.okB.lt {N : Nat} {E : Env} (h : E.okB N = true) : ∀ d T, E.get d = some T → d < N := by
  induction E with
  | nil => intro d T e; cases e
  | cons x r ih =>
    intro d T e
    simp only [Env.okB, List.all_cons, Bool.and_eq_true] at h
    obtain ⟨k, U⟩ := x
    simp only [Env.get] at e
    by_cases hk : Nat.beq k d = true
    · exact Nat.eq_of_beq_eq_true hk ▸ Nat.le_of_ble_eq_true h.1
    · simp only [Bool.not_eq_true] at hk; rw [hk] at e; exact ih h.2 d T e

theorem Typed.okE {F : FCtx} {E : Env} {G : Imm} {a : Act} (h : Typed F.N E G a) (hE : E.okB F.N = true) : ∀ d T, E.get d = some T → d < F.N := Env.okB.lt hE

section
variable {F : FCtx} {E : Env} {L : List Res} {Q : Exit → Act → World → Prop}
theorem HT.seq {x y : Code} (h : HT F E L x (Exit.then (y.wp F.P Q) Q)) : HT F E L (.seq x y) Q := fun a w G S hi ht => wp_seq (h a w G S hi ht)
theorem HT.region {id : Nat} {l : List Oper} (hE : E.okB F.N = true) (h : RegS F l.toArray Q l E L) : HT F E L (.region id l.toArray false) Q := fun a w G S hi ht =>
  wp_region_lit (RegS.sound l E L h (Env.okB.lt hE) a w G S hi ht)
theorem HT.skip (h : HX F E L Q .normal) : HT F E L .skip Q := fun a w G S hi ht => wp_skip (h a w G S hi ht)
theorem HT.ret (h : HX F E L Q .ret) : HT F E L .ret Q := fun a w G S hi ht => wp_ret (h a w G S hi ht)
theorem HT.exit {id : Nat} (h : HX F E L Q (.exit id)) : HT F E L (.exit id) Q := fun a w G S hi ht => wp_exit (h a w G S hi ht)
theorem HT.block {id : Nat} {c : Code} (h : HT F E L c (Exit.inBlock id Q)) : HT F E L (.block id c) Q := fun a w G S hi ht => wp_block (h a w G S hi ht)
theorem HT.cond {c : Operand} {x y : Code} {b : Bool} (hc : Opd E c = some (Is (.bool b))) (hx : b = true → HT F E L x Q) (hy : b = false → HT F E L y Q) : HT F E L (.cond c x y) Q := fun a w G S hi ht =>
  wp_cond_split (t := b) (ht.opd c hc) (fun hb => hx hb a w G S hi ht) (fun hb => hy hb a w G S hi ht)
/-- The ways meet again: what holds behind x is said outright. -/
theorem HT.seqMid {x y : Code} {σ : Type} (E' : σ → Env) (L' : σ → List Res) (I : σ → Prop)
    (h : HT F E L x (Exit.then (fun a w => ∃ s G S, I s ∧ Inv F (L' s) G w S ∧ Typed F.N (E' s) G a) Q)) (k : ∀ s, I s → HT F (E' s) (L' s) y Q) : HT F E L (.seq x y) Q := fun a w G S hi ht =>
  wp_seq (Code.wp_mono (fun e a w q => by
    cases e with
    | normal => obtain ⟨s, G, S, hI, hi, ht⟩ := q; exact k s hI a w G S hi ht
    | _ => exact q) (h a w G S hi ht))
theorem HT.loop {c : Code} {σ : Type} (E' : σ → Env) (L' : σ → List Res) (I : σ → Prop) (μ : σ → Nat)
    (h : HX F E L (fun _ a w => ∃ s G S, I s ∧ Inv F (L' s) G w S ∧ Typed F.N (E' s) G a) .normal)
    (k : ∀ s, I s → HT F (E' s) (L' s) c (Exit.then (fun a w => ∃ s' G S, (I s' ∧ μ s' < μ s) ∧ Inv F (L' s') G w S ∧ Typed F.N (E' s') G a) Q)) : HT F E L (.loop c) Q := by
  intro a w G S hi ht b ks cs
  have key : ∀ n s a w G S, μ s = n → I s → Inv F (L' s) G w S → Typed F.N (E' s) G a →
      ∃ e a' w', Q e a' w' ∧ Arrives F.P (lone (b.at a (.code c :: .inLoop c :: ks)) cs w) b ks cs e a' w' := by
    intro n
    induction n using Nat.strongRecOn with
    | _ n ih =>
      intro s a w G S hn hI hi ht
      obtain ⟨e, a₁, w₁, hq, harr⟩ := k s hI a w G S hi ht b (.inLoop c :: ks) cs
      cases e with
      | normal =>
        obtain ⟨s', G', S', ⟨hI', hlt⟩, hi', ht'⟩ := hq
        obtain ⟨e₂, a₂, w₂, hq₂, harr₂⟩ := ih (μ s') (hn ▸ hlt) s' a₁ w₁ G' S' rfl hI' hi' ht'
        exact ⟨e₂, a₂, w₂, hq₂, .of_steps (Steps.trans harr (.one step_inLoop)) harr₂⟩
      | exit id => exact ⟨_, a₁, w₁, hq, .pass (x := .inLoop c) rfl (fun _ _ => .inl (by simp)) harr⟩
      | goto l => exact ⟨_, a₁, w₁, hq, .pass (x := .inLoop c) rfl (fun _ _ => .inl (by simp)) harr⟩
      | ret => exact ⟨_, a₁, w₁, hq, .pass (x := .inLoop c) rfl (fun _ _ => .inl (by simp)) harr⟩
      | panic ch => exact ⟨_, a₁, w₁, hq, .pass (x := .inLoop c) rfl (fun _ _ => .inl (by simp)) harr⟩
      | outgrown => exact ⟨_, a₁, w₁, hq, .pass (x := .inLoop c) rfl (fun _ _ => .inl (by simp)) harr⟩
  obtain ⟨s, G', S', hI, hi', ht'⟩ := h a w G S hi ht
  obtain ⟨e, a', w', hq, harr⟩ := key _ s a w G' S' rfl hI hi' ht'
  exact ⟨e, a', w', hq, .of_steps (.one step_loop) harr⟩
end

end Go.Vk
