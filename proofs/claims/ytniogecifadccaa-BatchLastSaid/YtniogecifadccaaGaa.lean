/-
  A small program logic over the kit's walk rules: typed slots, a persistent heap, owned resources. Nothing here speaks of a program; no conditions.
  The rules of the program logic for the single operations. Nothing here speaks of a program; no conditions.
  The library's contract of slices.SortFunc laid at this program: cells sorted by their keys.
-/
import Derived.WalkKit
import Derived.Orders
import Derived.Maps.AppendAt
import Derived.Laws.AppendOwnNone
import Derived.WalkSpells
import Derived.Test.YtniogecifadccaaRows
import Derived.Shelf.SlSortCmp.WholeK
import Derived.Shelf.Small.Strs
import Derived.Ground.SlsfProg
import Derived.Ground.NamesProg
set_option linter.unusedSimpArgs false
set_option linter.unusedVariables false
set_option linter.unusedVariables false
namespace Go.Vk

/-! ### the persistent heap -/
abbrev Imm := Nat → Nat → Option Value
def Imm.le (G G' : Imm) : Prop := ∀ b o v, G b o = some v → G' b o = some v
theorem Imm.le.refl (G : Imm) : Imm.le G G := fun _ _ _ h => h
theorem Imm.le.trans {A B C : Imm} (h : Imm.le A B) (k : Imm.le B C) : Imm.le A C := fun b o v e => k b o v (h b o v e)
def Sat (G : Imm) (w : World) : Prop := ∀ b o v, G b o = some v → w.cell? ⟨b, o, none⟩ = some v
theorem Sat.lt {G : Imm} {w : World} (h : Sat G w) {b o : Nat} {v : Value} (e : G b o = some v) : b < w.heap.size := by
  have := h b o v e
  exact World.block_lt_of_cell? w ⟨b, o, none⟩ this

/-- What a slot holds. -/
structure Ty where
  p : Imm → Value → Prop
  mono : ∀ {G G' : Imm} {v : Value}, Imm.le G G' → p G v → p G' v

/-- From (G, w) to (G', w'): of what was there only blocks in Z may have changed. -/
structure Ext (Z : Nat → Prop) (G : Imm) (w : World) (G' : Imm) (w' : World) : Prop where
  sat : Sat G' w'
  le : Imm.le G G'
  os : w'.os = w.os
  tape : w'.tape = w.tape
  output : w'.output = w.output
  size : w.heap.size ≤ w'.heap.size
  blk : ∀ b, b < w.heap.size → ¬ Z b → w'.heap[b]? = w.heap[b]? ∧ ∀ o, G' b o = G b o

def noZ : Nat → Prop := fun _ => False

theorem Ext.refl {Z : Nat → Prop} {G : Imm} {w : World} (h : Sat G w) : Ext Z G w G w := ⟨h, Imm.le.refl G, rfl, rfl, rfl, Nat.le_refl _, fun _ _ _ => ⟨rfl, fun _ => rfl⟩⟩

theorem Ext.trans {X Z : Nat → Prop} {G0 G G' : Imm} {w0 w w' : World} (h : Ext X G0 w0 G w) (k : Ext Z G w G' w') (hz : ∀ b, Z b → X b ∨ w0.heap.size ≤ b) : Ext X G0 w0 G' w' :=
  ⟨k.sat, h.le.trans k.le, k.os.trans h.os, k.tape.trans h.tape, k.output.trans h.output, Nat.le_trans h.size k.size, fun b hb hx => by
    obtain ⟨e1, e2⟩ := h.blk b hb hx
    obtain ⟨e3, e4⟩ := k.blk b (Nat.lt_of_lt_of_le hb h.size) (fun hzb => (hz b hzb).elim hx (fun hle => by omega))
    exact ⟨e3.trans e1, fun o => (e4 o).trans (e2 o)⟩⟩

theorem Ext.trans0 {X : Nat → Prop} {G0 G G' : Imm} {w0 w w' : World} (h : Ext X G0 w0 G w) (k : Ext noZ G w G' w') : Ext X G0 w0 G' w' :=
  h.trans k (fun _ hz => hz.elim)

theorem Ext.below {G G' : Imm} {w w' : World} (h : Ext noZ G w G' w') : RowKit.Below w.heap.size w w' :=
  ⟨h.os, h.tape, h.output, h.size, fun k hk => (h.blk k hk (fun z => z)).1⟩

/-! ### owned resources -/
structure Res where
  p : (Nat → Prop) → Imm → World → Prop
  loc : ∀ {S : Nat → Prop} {G : Imm} {w : World} {G' : Imm} {w' : World}, p S G w → Imm.le G G' → (∀ b, S b → w'.heap[b]? = w.heap[b]? ∧ ∀ o, G' b o = G b o) → p S G' w'

structure Owns (S : Nat → Nat → Prop) (L : List Res) (G : Imm) (w : World) : Prop where
  bound : ∀ i b, S i b → b < w.heap.size
  disj : ∀ i j b, S i b → S j b → i = j
  inL : ∀ i b, S i b → i < L.length
  res : ∀ (i : Nat) (r : Res), L[i]? = some r → r.p (S i) G w

theorem Owns.ext {S : Nat → Nat → Prop} {L : List Res} {Z : Nat → Prop} {G : Imm} {w : World} {G' : Imm} {w' : World} (h : Owns S L G w) (k : Ext Z G w G' w') (hz : ∀ i b, S i b → ¬ Z b) : Owns S L G' w' :=
  ⟨fun i b hs => Nat.lt_of_lt_of_le (h.bound i b hs) k.size, h.disj, h.inL, fun i r hr => r.loc (h.res i r hr) k.le (fun b hs => k.blk b (h.bound i b hs) (hz i b hs))⟩

/-! ### the environment -/
abbrev Env := List (Nat × Ty)
def Env.get : Env → Nat → Option Ty
  | [], _ => none
  | (k, T) :: r, t => bif Nat.beq k t then some T else Env.get r t
def Is (v : Value) : Ty := ⟨fun _ x => x = v, fun _ h => h⟩
def Opd (E : Env) : Operand → Option Ty
  | .tmp t => E.get t
  | .const v => some (Is v)
  | .global g => some (Is (.pointer (some ⟨g, 0, none⟩)))
  | .func f => some (Is (.func (.func f) #[] #[]))
def Env.put (E : Env) : Option Tmp → Ty → Env
  | some d, T => (d, T) :: E
  | none, _ => E

structure Typed (N : Nat) (E : Env) (G : Imm) (a : Act) : Prop where
  size : a.tmps.size = N
  defers : a.defers = []
  get : ∀ t T, E.get t = some T → T.p G (a.tmps.getD t undef)

/-- The operands of an operation are as E says. -/
def TypedO (E : Env) (G : Imm) (a : Act) (o : Oper) : Prop := ∀ x ∈ o.op.operands, ∀ T, Opd E x = some T → T.p G (a.eval x)

theorem Typed.mono {N : Nat} {E : Env} {G G' : Imm} {a : Act} (h : Typed N E G a) (k : Imm.le G G') : Typed N E G' a :=
  ⟨h.size, h.defers, fun t T e => T.mono k (h.get t T e)⟩

theorem Typed.opd {N : Nat} {E : Env} {G : Imm} {a : Act} (h : Typed N E G a) (x : Operand) {T : Ty} (e : Opd E x = some T) : T.p G (a.eval x) := by
  cases x with
  | tmp t => exact h.get t T e
  | const v => cases e; rfl
  | global g => cases e; rfl
  | func f => cases e; rfl

theorem Typed.opds {N : Nat} {E : Env} {G : Imm} {a : Act} (h : Typed N E G a) (o : Oper) : TypedO E G a o := fun x _ _ e => h.opd x e

theorem Act.put_size (a : Act) (d : Option Tmp) (v : Value) : (a.put d v).tmps.size = a.tmps.size := by cases d <;> simp [Act.put]
theorem Act.put_defers' (a : Act) (d : Option Tmp) (v : Value) : (a.put d v).defers = a.defers := by cases d <;> rfl
theorem Act.put_getD (a : Act) (d t : Nat) (v : Value) (hd : d < a.tmps.size) : (a.put (some d) v).tmps.getD t undef = if d = t then v else a.tmps.getD t undef := by
  simp only [Act.put, Array.getD_eq_getD_getElem?, Array.getElem?_setIfInBounds]
  by_cases h : d = t
  · subst h; simp [hd]
  · simp [h]

theorem Typed.put {N : Nat} {E : Env} {G : Imm} {a : Act} (h : Typed N E G a) {d : Option Tmp} {T : Ty} {v : Value} (hd : ∀ k, d = some k → k < N) (hv : T.p G v) : Typed N (E.put d T) G (a.put d v) := by
  refine ⟨(Act.put_size a d v).trans h.size, (Act.put_defers' a d v).trans h.defers, ?_⟩
  cases d with
  | none => exact h.get
  | some k =>
    intro t T' e
    rw [Act.put_getD a k t v (by rw [h.size]; exact hd k rfl)]
    by_cases hk : k = t
    · subst hk
      simp only [Env.put, Env.get, Nat.beq_refl, cond_true, Option.some.injEq] at e
      subst e
      simpa using hv
    · have : Nat.beq k t = false := Bool.eq_false_iff.2 (fun h => hk (Nat.eq_of_beq_eq_true h))
      simp only [Env.put, Env.get, this, cond_false] at e
      simpa [hk] using h.get t T' e

/-! ### one operation -/
/-- An operation that leaves all that is there as it is; it may lay new blocks. -/
def OpP (P : Program) (L : List Res) (E : Env) (o : Oper) (T : Ty) : Prop :=
  ∀ (a : Act) (w : World) (G : Imm) (S : Nat → Nat → Prop), Sat G w → Owns S L G w → TypedO E G a o → ∀ (K : Act → World → Prop) (Q : Exit → Act → World → Prop),
    (∀ v w' G', Ext noZ G w G' w' → T.p G' v → K (a.put o.dst v) w') → o.wp P a w K Q

/-- An operation that may turn what is owned. -/
def OpC (P : Program) (L : List Res) (E : Env) (o : Oper) (T : Value → Ty) (L' : Value → List Res) : Prop :=
  ∀ (a : Act) (w : World) (G : Imm) (S : Nat → Nat → Prop), Sat G w → Owns S L G w → TypedO E G a o → ∀ (K : Act → World → Prop) (Q : Exit → Act → World → Prop),
    (∀ v w' G' S', Ext (fun b => ∃ i, S i b) G w G' w' → Owns S' (L' v) G' w' → (∀ i b, S' i b → w.heap.size ≤ b ∨ ∃ j, S j b) → (T v).p G' v → K (a.put o.dst v) w') → o.wp P a w K Q

theorem OpC.of_P {P : Program} {L : List Res} {E : Env} {o : Oper} {T : Ty} (h : OpP P L E o T) : OpC P L E o (fun _ => T) (fun _ => L) := by
  intro a w G S hs ho ht K Q k
  refine h a w G S hs ho ht K Q fun v w' G' he hv => ?_
  exact k v w' G' S ⟨he.sat, he.le, he.os, he.tape, he.output, he.size, fun b hb _ => he.blk b hb (fun z => z)⟩ (ho.ext he (fun _ _ _ z => z)) (fun i b hs => .inr ⟨i, hs⟩) hv

/-- The world stays. -/
theorem OpP.same {P : Program} {L : List Res} {E : Env} {o : Oper} {T : Ty}
    (h : ∀ (a : Act) (w : World) (G : Imm) (S : Nat → Nat → Prop), Sat G w → Owns S L G w → TypedO E G a o → ∃ v, (execOp a.eval o).run P w = .ok (.value v) w ∧ T.p G v) : OpP P L E o T := by
  intro a w G S hs ho ht K Q k
  obtain ⟨v, hr, hv⟩ := h a w G S hs ho ht
  simp only [Oper.wp, hr, Oper.upon_value]
  exact k v w G (Ext.refl hs) hv

/-- Some blocks are laid. -/
theorem OpP.laid {P : Program} {L : List Res} {E : Env} {o : Oper} {T : Ty}
    (h : ∀ (a : Act) (w : World) (G : Imm) (S : Nat → Nat → Prop), Sat G w → Owns S L G w → TypedO E G a o → ∃ v w' G', (execOp a.eval o).run P w = .ok (.value v) w' ∧ Ext noZ G w G' w' ∧ T.p G' v) : OpP P L E o T := by
  intro a w G S hs ho ht K Q k
  obtain ⟨v, w', G', hr, he, hv⟩ := h a w G S hs ho ht
  simp only [Oper.wp, hr, Oper.upon_value]
  exact k v w' G' he hv

/-! ### guards -/
def TIf (c : Prop) (T : Ty) : Ty := ⟨fun G v => (c → T.p G v) ∧ (¬ c → v = undef), fun h k => ⟨fun hc => T.mono h (k.1 hc), k.2⟩⟩
/-- A slot of type T is the bool 'want' just where c. -/
def GuardT (T : Ty) (want : Bool) (c : Prop) : Prop := ∀ G v, T.p G v → (c → v = .bool want) ∧ (v = .bool want → c)

theorem GuardT.is (b want : Bool) : GuardT (Is (.bool b)) want (b = want) := by
  intro G v h
  simp only [Is] at h; subst h
  exact ⟨fun e => by rw [e], fun e => by simpa using e⟩
theorem GuardT.nest (c : Prop) (b want : Bool) : GuardT (TIf c (Is (.bool b))) want (c ∧ b = want) := by
  intro G v h
  refine ⟨fun e => by rw [h.1 e.1, e.2], fun e => ?_⟩
  by_cases hc : c
  · refine ⟨hc, ?_⟩
    have := h.1 hc
    simp only [Is] at this
    rw [this] at e
    simpa using e
  · rw [h.2 hc] at e
    simp [undef] at e

/-- An operation with its guard: its slot's type as the rest of the region sees it. -/
def OpG (P : Program) (ops : Array Oper) (L : List Res) (E : Env) (o : Oper) (T : Ty) : Prop :=
  match o.guard with
  | none => OpP P L E o T
  | some (j, want) => ∃ d Tg c T', (ops[j]?).bind (·.dst) = some d ∧ E.get d = some Tg ∧ GuardT Tg want c ∧ (c → OpP P L E o T') ∧ T = TIf c T'

theorem OpG.free {P : Program} {ops : Array Oper} {L : List Res} {E : Env} {o : Oper} {T : Ty} (hg : o.guard = .none) (h : OpP P L E o T) : OpG P ops L E o T := by
  unfold OpG; rw [hg]; exact h

theorem OpG.guarded {P : Program} {ops : Array Oper} {L : List Res} {E : Env} {o : Oper} {j : Nat} {want : Bool} {d : Nat} {Tg : Ty} {c : Prop} {T' : Ty} (hg : o.guard = .some (j, want))
    (hd : (ops[j]?).bind (·.dst) = .some d) (he : E.get d = .some Tg) (hc : GuardT Tg want c) (h : c → OpP P L E o T') : OpG P ops L E o (TIf c T') := by
  unfold OpG; rw [hg]; exact ⟨d, Tg, c, T', hd, he, hc, h, rfl⟩

def dstB (N : Nat) (o : Oper) : Bool := match o.dst with | none => true | some k => Nat.blt k N
theorem dstB.lt {N : Nat} {o : Oper} (h : dstB N o = true) : ∀ k, o.dst = some k → k < N := by
  intro k e
  simp only [dstB, e] at h
  exact Nat.le_of_ble_eq_true h

/-! ### a function's frame of reference -/
structure FCtx where
  P : Program
  N : Nat
  w0 : World
  G0 : Imm
  X : Nat → Prop

structure Inv (F : FCtx) (L : List Res) (G : Imm) (w : World) (S : Nat → Nat → Prop) : Prop where
  ext : Ext F.X F.G0 F.w0 G w
  owns : Owns S L G w
  mine : ∀ i b, S i b → F.X b ∨ F.w0.heap.size ≤ b

theorem Inv.step {F : FCtx} {L L' : List Res} {G G' : Imm} {w w' : World} {S S' : Nat → Nat → Prop} (h : Inv F L G w S) (k : Ext (fun b => ∃ i, S i b) G w G' w') (ho : Owns S' L' G' w') (hs : ∀ i b, S' i b → w.heap.size ≤ b ∨ ∃ j, S j b) : Inv F L' G' w' S' :=
  ⟨h.ext.trans k (fun b ⟨i, hb⟩ => h.mine i b hb), ho, fun i b hb => (hs i b hb).elim (fun h' => .inr (Nat.le_trans h.ext.size h')) (fun ⟨j, hj⟩ => h.mine j b hj)⟩
theorem Inv.step0 {F : FCtx} {L : List Res} {G G' : Imm} {w w' : World} {S : Nat → Nat → Prop} (h : Inv F L G w S) (k : Ext noZ G w G' w') : Inv F L G' w' S :=
  ⟨h.ext.trans0 k, h.owns.ext k (fun _ _ _ z => z), h.mine⟩

/-- The goal behind a piece of code: at the exit e, in every state that E and L allow. -/
def HX (F : FCtx) (E : Env) (L : List Res) (Q : Exit → Act → World → Prop) (e : Exit) : Prop :=
  ∀ a w G S, Inv F L G w S → Typed F.N E G a → Q e a w
/-- A piece of code, in every state that E and L allow. -/
def HT (F : FCtx) (E : Env) (L : List Res) (c : Code) (Q : Exit → Act → World → Prop) : Prop :=
  ∀ a w G S, Inv F L G w S → Typed F.N E G a → c.wp F.P Q a w

/-! ### a region in the text's order -/
/-- The operation is surely run: it bears no guard, or its guard is known to say yes. -/
def GdOk (ops : Array Oper) (E : Env) (o : Oper) : Prop :=
  o.guard = none ∨ ∃ j want d Tg c, o.guard = some (j, want) ∧ (ops[j]?).bind (·.dst) = some d ∧ E.get d = some Tg ∧ GuardT Tg want c ∧ c
def RegS (F : FCtx) (ops : Array Oper) (Q : Exit → Act → World → Prop) : List Oper → Env → List Res → Prop
  | [], E, L => HX F E L Q .normal
  | o :: rest, E, L =>
    (∃ T, dstB F.N o = true ∧ OpG F.P ops L E o T ∧ RegS F ops Q rest (E.put o.dst T) L) ∨
    (∃ T L', GdOk ops E o ∧ dstB F.N o = true ∧ OpC F.P L E o T L' ∧ ∀ v, RegS F ops Q rest (E.put o.dst (T v)) (L' v))

theorem yielded_of {ops : Array Oper} {a : Act} {j d : Nat} {N : Nat} (hd : (ops[j]?).bind (·.dst) = some d) (hs : a.tmps.size = N) (hN : d < N) (b : Bool) :
    yielded ops a.tmps j = some b ↔ a.tmps.getD d undef = .bool b := by
  unfold yielded
  rw [hd]
  have hx : a.tmps[d]? = some (a.tmps.getD d undef) := by
    rw [Array.getD_eq_getD_getElem?]
    have : d < a.tmps.size := by omega
    simp [Array.getElem?_eq_getElem this]
  simp only [Option.bind_some, hx]
  cases a.tmps.getD d undef <;> simp

theorem OpG.step {F : FCtx} {ops : Array Oper} {L : List Res} {E : Env} {o : Oper} {T : Ty} {Q : Exit → Act → World → Prop} {K : Act → World → Prop} (h : OpG F.P ops L E o T)
    {a : Act} {w : World} {G : Imm} {S : Nat → Nat → Prop} (hs : Sat G w) (ho : Owns S L G w) (hto : TypedO E G a o)
    (hy : ∀ j want d, o.guard = some (j, want) → (ops[j]?).bind (·.dst) = some d → ∀ Tg, E.get d = some Tg → Tg.p G (a.tmps.getD d undef) ∧ (yielded ops a.tmps j = some want ↔ a.tmps.getD d undef = .bool want))
    (k : ∀ v w' G', Ext noZ G w G' w' → T.p G' v → K (a.put o.dst v) w') :
    if Region.wanted o (yielded ops a.tmps) then o.wp F.P a w K Q else K (a.put o.dst undef) w := by
  unfold OpG at h
  cases hg : o.guard with
  | none =>
    rw [hg] at h
    rw [if_pos (by simp [Region.wanted, hg])]
    exact h a w G S hs ho hto K Q k
  | some jw =>
    obtain ⟨j, want⟩ := jw
    rw [hg] at h
    obtain ⟨d, Tg, c, T', hd, he, hc, hop, rfl⟩ := h
    obtain ⟨hTg, hyy⟩ := hy j want d hg hd Tg he
    have hcc := hc G _ hTg
    by_cases hw : yielded ops a.tmps j = some want
    · rw [if_pos (by simp [Region.wanted, hg, hw])]
      have hcond := hcc.2 (hyy.1 hw)
      exact hop hcond a w G S hs ho hto K Q fun v w' G' hext hv => k v w' G' hext ⟨fun _ => hv, fun hn => absurd hcond hn⟩
    · rw [if_neg (by simp [Region.wanted, hg, hw])]
      exact k _ w G (Ext.refl hs) ⟨fun hcond => (hw (hyy.2 (hcc.1 hcond))).elim, fun _ => rfl⟩

theorem RegS.sound {F : FCtx} {ops : Array Oper} {Q : Exit → Act → World → Prop} : ∀ (l : List Oper) (E : Env) (L : List Res), RegS F ops Q l E L → (∀ d T, E.get d = some T → d < F.N) →
    ∀ a w G S, Inv F L G w S → Typed F.N E G a → wpList F.P ops Q l a w
  | [], E, L, h, _, a, w, G, S, hi, ht => h a w G S hi ht
  | o :: rest, E, L, h, hE, a, w, G, S, hi, ht => by
    have hEp : ∀ T, dstB F.N o = true → ∀ d T', (E.put o.dst T).get d = some T' → d < F.N := by
      intro T hdst d T' e
      cases hd : o.dst with
      | none => rw [hd] at e; exact hE d T' e
      | some k =>
        rw [hd] at e
        simp only [Env.put, Env.get] at e
        by_cases hk : Nat.beq k d = true
        · exact Nat.eq_of_beq_eq_true hk ▸ dstB.lt hdst k hd
        · simp only [Bool.not_eq_true] at hk; rw [hk] at e; exact hE d T' e
    rcases h with ⟨T, hdst, hop, hrest⟩ | ⟨T, L', hg, hdst, hop, hrest⟩
    · refine wpList_step fun K hK => ?_
      refine OpG.step (F := F) (L := L) (E := E) (T := T) hop hi.ext.sat hi.owns (ht.opds o) ?_ ?_
      · intro j want d _ hd Tg he
        exact ⟨ht.get d Tg he, yielded_of hd ht.size (hE d Tg he) want⟩
      · intro v w' G' hext hv
        exact hK _ _ (RegS.sound rest _ L hrest (hEp T hdst) _ _ G' S (hi.step0 hext) ((ht.mono hext.le).put (dstB.lt hdst) hv))
    · refine wpList_step fun K hK => ?_
      have hw : Region.wanted o (yielded ops a.tmps) = true := by
        rcases hg with hg | ⟨j, want, d, Tg, c, hg, hd, he, hc, hcc⟩
        · simp [Region.wanted, hg]
        · have h1 := (hc G _ (ht.get d Tg he)).1 hcc
          have h2 := (yielded_of hd ht.size (hE d Tg he) want).2 h1
          simp [Region.wanted, hg, h2]
      rw [if_pos hw]
      refine hop a w G S hi.ext.sat hi.owns (ht.opds o) K Q fun v w' G' S' hext ho' hs' hv => ?_
      exact hK _ _ (RegS.sound rest _ (L' v) (hrest v) (hEp (T v) hdst) _ _ G' S' (hi.step hext ho' hs') ((ht.mono hext.le).put (dstB.lt hdst) hv))

/-! ### code -/
/-- All slots that the environment names lie in the frame. -/
def Env.okB (N : Nat) (E : Env) : Bool := E.all fun x => Nat.blt x.1 N
theorem Env.okB.lt {N : Nat} {E : Env} (h : E.okB N = true) : ∀ d T, E.get d = some T → d < N := by
  induction E with
  | nil => intro d T e; cases e
  | cons x r ih =>
    intro d T e
    simp only [Env.okB, List.all_cons, Bool.and_eq_true] at h
    obtain ⟨k, U⟩ := x
    simp only [Env.get] at e
    by_cases hk : Nat.beq k d = true
    · exact Nat.eq_of_beq_eq_true hk ▸ Nat.le_of_ble_eq_true h.1
    · simp only [Bool.not_eq_true] at hk; rw [hk] at e; exact ih h.2 d T e

theorem Typed.okE {F : FCtx} {E : Env} {G : Imm} {a : Act} (h : Typed F.N E G a) (hE : E.okB F.N = true) : ∀ d T, E.get d = some T → d < F.N := Env.okB.lt hE

section
variable {F : FCtx} {E : Env} {L : List Res} {Q : Exit → Act → World → Prop}
theorem HT.seq {x y : Code} (h : HT F E L x (Exit.then (y.wp F.P Q) Q)) : HT F E L (.seq x y) Q := fun a w G S hi ht => wp_seq (h a w G S hi ht)
theorem HT.region {id : Nat} {l : List Oper} (hE : E.okB F.N = true) (h : RegS F l.toArray Q l E L) : HT F E L (.region id l.toArray false) Q := fun a w G S hi ht =>
  wp_region_lit (RegS.sound l E L h (Env.okB.lt hE) a w G S hi ht)
theorem HT.skip (h : HX F E L Q .normal) : HT F E L .skip Q := fun a w G S hi ht => wp_skip (h a w G S hi ht)
theorem HT.ret (h : HX F E L Q .ret) : HT F E L .ret Q := fun a w G S hi ht => wp_ret (h a w G S hi ht)
theorem HT.exit {id : Nat} (h : HX F E L Q (.exit id)) : HT F E L (.exit id) Q := fun a w G S hi ht => wp_exit (h a w G S hi ht)
theorem HT.block {id : Nat} {c : Code} (h : HT F E L c (Exit.inBlock id Q)) : HT F E L (.block id c) Q := fun a w G S hi ht => wp_block (h a w G S hi ht)
theorem HT.cond {c : Operand} {x y : Code} {b : Bool} (hc : Opd E c = some (Is (.bool b))) (hx : b = true → HT F E L x Q) (hy : b = false → HT F E L y Q) : HT F E L (.cond c x y) Q := fun a w G S hi ht =>
  wp_cond_split (t := b) (ht.opd c hc) (fun hb => hx hb a w G S hi ht) (fun hb => hy hb a w G S hi ht)
/-- The ways meet again: what holds behind x is said outright. -/
theorem HT.seqMid {x y : Code} {σ : Type} (E' : σ → Env) (L' : σ → List Res) (I : σ → Prop)
    (h : HT F E L x (Exit.then (fun a w => ∃ s G S, I s ∧ Inv F (L' s) G w S ∧ Typed F.N (E' s) G a) Q)) (k : ∀ s, I s → HT F (E' s) (L' s) y Q) : HT F E L (.seq x y) Q := fun a w G S hi ht =>
  wp_seq (Code.wp_mono (fun e a w q => by
    cases e with
    | normal => obtain ⟨s, G, S, hI, hi, ht⟩ := q; exact k s hI a w G S hi ht
    | _ => exact q) (h a w G S hi ht))
theorem HT.loop {c : Code} {σ : Type} (E' : σ → Env) (L' : σ → List Res) (I : σ → Prop) (μ : σ → Nat)
    (h : HX F E L (fun _ a w => ∃ s G S, I s ∧ Inv F (L' s) G w S ∧ Typed F.N (E' s) G a) .normal)
    (k : ∀ s, I s → HT F (E' s) (L' s) c (Exit.then (fun a w => ∃ s' G S, (I s' ∧ μ s' < μ s) ∧ Inv F (L' s') G w S ∧ Typed F.N (E' s') G a) Q)) : HT F E L (.loop c) Q := by
  intro a w G S hi ht b ks cs
  have key : ∀ n s a w G S, μ s = n → I s → Inv F (L' s) G w S → Typed F.N (E' s) G a →
      ∃ e a' w', Q e a' w' ∧ Arrives F.P (lone (b.at a (.code c :: .inLoop c :: ks)) cs w) b ks cs e a' w' := by
    intro n
    induction n using Nat.strongRecOn with
    | _ n ih =>
      intro s a w G S hn hI hi ht
      obtain ⟨e, a₁, w₁, hq, harr⟩ := k s hI a w G S hi ht b (.inLoop c :: ks) cs
      cases e with
      | normal =>
        obtain ⟨s', G', S', ⟨hI', hlt⟩, hi', ht'⟩ := hq
        obtain ⟨e₂, a₂, w₂, hq₂, harr₂⟩ := ih (μ s') (hn ▸ hlt) s' a₁ w₁ G' S' rfl hI' hi' ht'
        exact ⟨e₂, a₂, w₂, hq₂, .of_steps (Steps.trans harr (.one step_inLoop)) harr₂⟩
      | exit id => exact ⟨_, a₁, w₁, hq, .pass (x := .inLoop c) rfl (fun _ _ => .inl (by simp)) harr⟩
      | goto l => exact ⟨_, a₁, w₁, hq, .pass (x := .inLoop c) rfl (fun _ _ => .inl (by simp)) harr⟩
      | ret => exact ⟨_, a₁, w₁, hq, .pass (x := .inLoop c) rfl (fun _ _ => .inl (by simp)) harr⟩
      | panic ch => exact ⟨_, a₁, w₁, hq, .pass (x := .inLoop c) rfl (fun _ _ => .inl (by simp)) harr⟩
      | outgrown => exact ⟨_, a₁, w₁, hq, .pass (x := .inLoop c) rfl (fun _ _ => .inl (by simp)) harr⟩
  obtain ⟨s, G', S', hI, hi', ht'⟩ := h a w G S hi ht
  obtain ⟨e, a', w', hq, harr⟩ := key _ s a w G' S' rfl hI hi' ht'
  exact ⟨e, a', w', hq, .of_steps (.one step_loop) harr⟩
end

end Go.Vk
set_option linter.unusedVariables false
namespace Go.Vk

/-! ### types -/
def TIs := Is
/-- A string's value. -/
def str (l : List UInt8) : Value := .string ⟨l.toArray⟩
/-- Both. -/
def TAnd (T U : Ty) : Ty := ⟨fun G v => T.p G v ∧ U.p G v, fun h k => ⟨T.mono h k.1, U.mono h k.2⟩⟩
/-- A tuple. -/
def TupP (ts : List Ty) (G : Imm) (v : Value) : Prop := ∃ vs : List Value, v = .tuple vs.toArray ∧ vs.length = ts.length ∧ ∀ (j : Nat) (T : Ty) (u : Value), ts[j]? = some T → vs[j]? = some u → T.p G u
def TTup (ts : List Ty) : Ty := ⟨TupP ts, fun h ⟨vs, e, hl, k⟩ => ⟨vs, e, hl, fun j T u h1 h2 => T.mono h (k j T u h1 h2)⟩⟩
/-- Cells of the persistent heap, from an offset on. -/
def CellsP (G : Imm) (b o : Nat) (ts : List Ty) : Prop := ∀ (j : Nat) (T : Ty), ts[j]? = some T → ∃ u, G b (o + j) = some u ∧ T.p G u ∧ u.oneCell' = true
theorem CellsP.mono {G G' : Imm} {b o : Nat} {ts : List Ty} (h : Imm.le G G') (k : CellsP G b o ts) : CellsP G' b o ts :=
  fun j T e => let ⟨u, h1, h2, h3⟩ := k j T e; ⟨u, h _ _ _ h1, T.mono h h2, h3⟩
/-- A slice that reads as l; each element's cells are as f says. x: its capacity is its length. -/
def SlP {α : Type} (x : Bool) (sz : Nat) (f : α → List Ty) (l : List α) (G : Imm) (v : Value) : Prop :=
  ∃ (a : Option Addr) (cap : Nat), v = .slice a l.length cap ∧ l.length ≤ cap ∧ cap ≤ maxLen ∧ (x = true → cap = l.length) ∧ (a = none → cap = 0) ∧
    ∀ ad, a = some ad → (0 < l.length → ad.spot = none) ∧ ∀ (i : Nat) (y : α), l[i]? = some y → (f y).length = sz ∧ CellsP G ad.block (ad.off + i * sz) (f y)
theorem SlP.mono {α : Type} {x : Bool} {sz : Nat} {f : α → List Ty} {l : List α} {G G' : Imm} {v : Value} (h : Imm.le G G') (k : SlP x sz f l G v) : SlP x sz f l G' v :=
  let ⟨a, cap, h1, h2, h3, h4, h5, h6⟩ := k
  ⟨a, cap, h1, h2, h3, h4, h5, fun ad e => ⟨(h6 ad e).1, fun i y e' => ⟨((h6 ad e).2 i y e').1, ((h6 ad e).2 i y e').2.mono h⟩⟩⟩
def TSl {α : Type} (sz : Nat) (f : α → List Ty) (l : List α) : Ty := ⟨SlP false sz f l, SlP.mono⟩
def TSlX {α : Type} (sz : Nat) (f : α → List Ty) (l : List α) : Ty := ⟨SlP true sz f l, SlP.mono⟩
/-- A pointer to cells of the persistent heap. -/
def TPc (ts : List Ty) : Ty := ⟨fun G v => ∃ b o, v = .pointer (some ⟨b, o, none⟩) ∧ CellsP G b o ts, fun h ⟨b, o, e, k⟩ => ⟨b, o, e, k.mono h⟩⟩
/-- A struct's or array's value, cell by cell. -/
def AggP (ts : List Ty) (G : Imm) (v : Value) : Prop := ∃ vs : List Value, v = .agg vs.toArray ∧ vs.length = ts.length ∧ ∀ (j : Nat) (T : Ty) (u : Value), ts[j]? = some T → vs[j]? = some u → T.p G u ∧ u.oneCell' = true
def TAgg (ts : List Ty) : Ty := ⟨AggP ts, fun h ⟨vs, e, hl, k⟩ => ⟨vs, e, hl, fun j T u h1 h2 => ⟨T.mono h (k j T u h1 h2).1, (k j T u h1 h2).2⟩⟩⟩
/-- Elements. -/
def cB (c : UInt8) : List Ty := [Is (.int .u8 (c.toNat : Int))]
def cI (n : Int) : List Ty := [Is (.int .i64 n)]
def cS (l : List UInt8) : List Ty := [Is (str l)]
def cL {α : Type} (sz : Nat) (f : α → List Ty) (l : List α) : List Ty := [TSl sz f l]
abbrev TBytes (l : List UInt8) : Ty := TSl 1 cB l

theorem TSlX.sl {α : Type} {sz : Nat} {f : α → List Ty} {l : List α} {G : Imm} {v : Value} (h : (TSlX sz f l).p G v) : (TSl sz f l).p G v :=
  let ⟨a, cap, h1, h2, h3, _, h5, h6⟩ := h
  ⟨a, cap, h1, h2, h3, fun e => (by cases e), h5, h6⟩
theorem nil_sl {α : Type} (sz : Nat) (f : α → List Ty) (G : Imm) : (TSlX sz f ([] : List α)).p G (.slice none 0 0) :=
  ⟨none, 0, rfl, Nat.le_refl _, Nat.zero_le _, fun _ => rfl, fun _ => rfl, fun ad e => by cases e⟩

/-! ### subtyping -/
def Sub (T U : Ty) : Prop := ∀ G v, T.p G v → U.p G v
theorem Sub.refl (T : Ty) : Sub T T := fun _ _ h => h
theorem Sub.nil {α : Type} (sz : Nat) (f : α → List Ty) : Sub (Is (.slice none 0 0)) (TSl sz f ([] : List α)) := fun G v h => by cases h; exact TSlX.sl (nil_sl sz f G)
theorem Sub.andR (T U : Ty) : Sub (TAnd T U) U := fun _ _ h => h.2
theorem Sub.andL (T U : Ty) : Sub (TAnd T U) T := fun _ _ h => h.1

/-! ### the rules -/
section
variable {P : Program} {L : List Res} {E : Env} {dst : Option Tmp} {ty : TypeId} {pos : String} {after : Array Edge} {gd : Option (Nat × Bool)}

theorem op_move {x : Operand} {T : Ty} (hx : Opd E x = some T) : OpP P L E ⟨dst, .move x, ty, pos, after, gd⟩ T :=
  OpP.same fun a w G S _ _ h => ⟨a.eval x, by simp [execOp], h x (by simp [Op.operands]) T hx⟩
theorem op_assign {x : Operand} {T : Ty} (hx : Opd E x = some T) : OpP P L E ⟨dst, .assign x, ty, pos, after, gd⟩ T :=
  OpP.same fun a w G S _ _ h => ⟨a.eval x, by simp [execOp], h x (by simp [Op.operands]) T hx⟩
theorem op_or {c y : Operand} {b b' : Bool} (hc : Opd E c = some (Is (.bool b))) (hy : Opd E y = some (TIf (b = false) (Is (.bool b')))) : OpP P L E ⟨dst, .pick c (.const (.bool true)) y, ty, pos, after, gd⟩ (Is (.bool (b || b'))) :=
  OpP.same fun a w G S _ _ h => by
    have h1 : a.eval c = .bool b := h c (by simp [Op.operands]) _ hc
    have h2 : b = false → a.eval y = .bool b' := (h y (by simp [Op.operands]) _ hy).1
    cases b
    · exact ⟨.bool b', by simp [execOp, h1, asBool, h2 rfl], by simp [Is]⟩
    · exact ⟨.bool true, by simp only [execOp, h1]; simp [asBool, Act.eval], by simp [Is]⟩
theorem op_and {c y : Operand} {b b' : Bool} (hc : Opd E c = some (Is (.bool b))) (hy : Opd E y = some (TIf (b = true) (Is (.bool b')))) : OpP P L E ⟨dst, .pick c y (.const (.bool false)), ty, pos, after, gd⟩ (Is (.bool (b && b'))) :=
  OpP.same fun a w G S _ _ h => by
    have h1 : a.eval c = .bool b := h c (by simp [Op.operands]) _ hc
    have h2 : b = true → a.eval y = .bool b' := (h y (by simp [Op.operands]) _ hy).1
    cases b
    · exact ⟨.bool false, by simp only [execOp, h1]; simp [asBool, Act.eval], by simp [Is]⟩
    · exact ⟨.bool b', by simp [execOp, h1, asBool, h2 rfl], by simp [Is]⟩

section ints
variable {x y : Operand} {k : IntKind} {m n : Int} {xt yt : TypeId}
theorem run_bin {bo : BinOp} (w : World) (hs : bo ≠ .shl) (hr : bo ≠ .shr) :
    (binOp bo xt (.int k m) (.int k n)).run P w = (match bo with
    | .add | .sub | .mul => Op.intArith bo k m n
    | .quo | .rem => Op.intDiv bo k m n
    | .and | .or | .xor | .andNot => Op.intBits bo k m n
    | _ => Op.intCmp bo m n).run P w := by
  cases bo <;> simp_all [binOp]
theorem run_guard {bo : BinOp} (w : World) : (eqGuard bo xt x y (.int k m) (.int k n)).run P w = .ok () w := by
  cases bo <;> simp [eqGuard]

theorem op_bin {bo : BinOp} {T : Ty} {v : Value} (hx : Opd E x = some (Is (.int k m))) (hy : Opd E y = some (Is (.int k n))) (hs : bo ≠ .shl) (hr : bo ≠ .shr)
    (h : ∀ w, (match bo with
    | .add | .sub | .mul => Op.intArith bo k m n
    | .quo | .rem => Op.intDiv bo k m n
    | .and | .or | .xor | .andNot => Op.intBits bo k m n
    | _ => Op.intCmp bo m n : Sem Value).run P w = .ok v w) (hT : ∀ G, T.p G v) : OpP P L E ⟨dst, .binOp bo xt x y yt, ty, pos, after, gd⟩ T :=
  OpP.same fun a w G S _ _ ho => by
    have h1 : a.eval x = .int k m := ho x (by simp [Op.operands]) _ hx
    have h2 : a.eval y = .int k n := ho y (by simp [Op.operands]) _ hy
    refine ⟨v, ?_, hT G⟩
    simp only [execOp, h1, h2]
    have e1 := run_guard (P := P) (x := x) (y := y) (xt := xt) (k := k) (m := m) (n := n) (bo := bo) w
    have e2 := run_bin (P := P) (xt := xt) (k := k) (m := m) (n := n) w hs hr
    simp [Sem.run_bind, e1, e2, h w]

abbrev okI (k : IntKind) (m : Int) : Ty := Is (.int k m)
theorem op_lss (hx : Opd E x = some (okI k m)) (hy : Opd E y = some (okI k n)) : OpP P L E ⟨dst, .binOp .lss xt x y yt, ty, pos, after, gd⟩ (Is (.bool (decide (m < n)))) :=
  op_bin hx hy (by simp) (by simp) (fun w => by simp [Op.intCmp]) (fun _ => rfl)
theorem op_leq (hx : Opd E x = some (okI k m)) (hy : Opd E y = some (okI k n)) : OpP P L E ⟨dst, .binOp .leq xt x y yt, ty, pos, after, gd⟩ (Is (.bool (decide (m ≤ n)))) :=
  op_bin hx hy (by simp) (by simp) (fun w => by simp [Op.intCmp]) (fun _ => rfl)
theorem op_gtr (hx : Opd E x = some (okI k m)) (hy : Opd E y = some (okI k n)) : OpP P L E ⟨dst, .binOp .gtr xt x y yt, ty, pos, after, gd⟩ (Is (.bool (decide (n < m)))) :=
  op_bin hx hy (by simp) (by simp) (fun w => by simp [Op.intCmp]) (fun _ => rfl)
theorem op_geq (hx : Opd E x = some (okI k m)) (hy : Opd E y = some (okI k n)) : OpP P L E ⟨dst, .binOp .geq xt x y yt, ty, pos, after, gd⟩ (Is (.bool (decide (n ≤ m)))) :=
  op_bin hx hy (by simp) (by simp) (fun w => by simp [Op.intCmp]) (fun _ => rfl)
theorem op_eqi (hx : Opd E x = some (okI k m)) (hy : Opd E y = some (okI k n)) : OpP P L E ⟨dst, .binOp .eql xt x y yt, ty, pos, after, gd⟩ (Is (.bool (decide (m = n)))) :=
  op_bin hx hy (by simp) (by simp) (fun w => by by_cases h : m = n <;> simp [Op.intCmp, h]) (fun _ => rfl)
theorem op_nei (hx : Opd E x = some (okI k m)) (hy : Opd E y = some (okI k n)) : OpP P L E ⟨dst, .binOp .neq xt x y yt, ty, pos, after, gd⟩ (Is (.bool (decide (m ≠ n)))) :=
  op_bin hx hy (by simp) (by simp) (fun w => by simp [Op.intCmp, bne, BEq.beq]) (fun _ => rfl)
/-- k's range. -/
def InK (k : IntKind) (n : Int) : Prop := k.wrap n = n
theorem InK.i64 {n : Int} (h : -9223372036854775808 ≤ n ∧ n ≤ 9223372036854775807) : InK .i64 n := IntWalk.i64_in n h
theorem InK.u8 {n : Int} (h : 0 ≤ n ∧ n ≤ 255) : InK .u8 n := IntWalk.u8_in n h
theorem InK.u64 {n : Int} (h : 0 ≤ n ∧ n ≤ 18446744073709551615) : InK .u64 n := IntWalk.u64_in n h
theorem InK.u32 {n : Int} (h : 0 ≤ n ∧ n ≤ 4294967295) : InK .u32 n := IntWalk.u32_in n h
theorem op_addw (hx : Opd E x = some (okI k m)) (hy : Opd E y = some (okI k n)) : OpP P L E ⟨dst, .binOp .add xt x y yt, ty, pos, after, gd⟩ (okI k (k.wrap (m + n))) :=
  op_bin hx hy (by simp) (by simp) (fun w => by simp [Op.intArith]) (fun _ => rfl)
theorem op_subw (hx : Opd E x = some (okI k m)) (hy : Opd E y = some (okI k n)) : OpP P L E ⟨dst, .binOp .sub xt x y yt, ty, pos, after, gd⟩ (okI k (k.wrap (m - n))) :=
  op_bin hx hy (by simp) (by simp) (fun w => by simp [Op.intArith]) (fun _ => rfl)
theorem op_mulw (hx : Opd E x = some (okI k m)) (hy : Opd E y = some (okI k n)) : OpP P L E ⟨dst, .binOp .mul xt x y yt, ty, pos, after, gd⟩ (okI k (k.wrap (m * n))) :=
  op_bin hx hy (by simp) (by simp) (fun w => by simp [Op.intArith]) (fun _ => rfl)
theorem op_add (hx : Opd E x = some (okI k m)) (hy : Opd E y = some (okI k n)) (h : InK k (m + n)) : OpP P L E ⟨dst, .binOp .add xt x y yt, ty, pos, after, gd⟩ (okI k (m + n)) := by
  have := op_addw (P := P) (L := L) (dst := dst) (ty := ty) (pos := pos) (after := after) (gd := gd) (xt := xt) (yt := yt) hx hy; rwa [show k.wrap (m + n) = m + n from h] at this
theorem op_sub (hx : Opd E x = some (okI k m)) (hy : Opd E y = some (okI k n)) (h : InK k (m - n)) : OpP P L E ⟨dst, .binOp .sub xt x y yt, ty, pos, after, gd⟩ (okI k (m - n)) := by
  have := op_subw (P := P) (L := L) (dst := dst) (ty := ty) (pos := pos) (after := after) (gd := gd) (xt := xt) (yt := yt) hx hy; rwa [show k.wrap (m - n) = m - n from h] at this
theorem op_mul (hx : Opd E x = some (okI k m)) (hy : Opd E y = some (okI k n)) (h : InK k (m * n)) : OpP P L E ⟨dst, .binOp .mul xt x y yt, ty, pos, after, gd⟩ (okI k (m * n)) := by
  have := op_mulw (P := P) (L := L) (dst := dst) (ty := ty) (pos := pos) (after := after) (gd := gd) (xt := xt) (yt := yt) hx hy; rwa [show k.wrap (m * n) = m * n from h] at this
/-- The bits of two numbers. -/
def bitsOf (bo : BinOp) (k : IntKind) (x y : Int) : Int :=
  let a := BitVec.ofInt k.bits x
  let b := BitVec.ofInt k.bits y
  k.wrap (match bo with
  | .and => (a &&& b).toNat
  | .or => (a ||| b).toNat
  | .xor => (a ^^^ b).toNat
  | _ => (a &&& ~~~b).toNat)
theorem op_andb (hx : Opd E x = some (okI k m)) (hy : Opd E y = some (okI k n)) : OpP P L E ⟨dst, .binOp .and xt x y yt, ty, pos, after, gd⟩ (okI k (bitsOf .and k m n)) :=
  op_bin hx hy (by simp) (by simp) (fun w => by simp [Op.intBits, bitsOf]) (fun _ => rfl)
theorem op_orb (hx : Opd E x = some (okI k m)) (hy : Opd E y = some (okI k n)) : OpP P L E ⟨dst, .binOp .or xt x y yt, ty, pos, after, gd⟩ (okI k (bitsOf .or k m n)) :=
  op_bin hx hy (by simp) (by simp) (fun w => by simp [Op.intBits, bitsOf]) (fun _ => rfl)
theorem op_xorb (hx : Opd E x = some (okI k m)) (hy : Opd E y = some (okI k n)) : OpP P L E ⟨dst, .binOp .xor xt x y yt, ty, pos, after, gd⟩ (okI k (bitsOf .xor k m n)) :=
  op_bin hx hy (by simp) (by simp) (fun w => by simp [Op.intBits, bitsOf]) (fun _ => rfl)
theorem op_andn (hx : Opd E x = some (okI k m)) (hy : Opd E y = some (okI k n)) : OpP P L E ⟨dst, .binOp .andNot xt x y yt, ty, pos, after, gd⟩ (okI k (bitsOf .andNot k m n)) :=
  op_bin hx hy (by simp) (by simp) (fun w => by simp [Op.intBits, bitsOf]) (fun _ => rfl)
theorem op_shlw {k' : IntKind} (hx : Opd E x = some (okI k m)) (hy : Opd E y = some (okI k' n)) (hn : 0 ≤ n ∧ n ≤ k.bits) : OpP P L E ⟨dst, .binOp .shl xt x y yt, ty, pos, after, gd⟩ (okI k (k.wrap (m * 2 ^ n.toNat))) :=
  OpP.same fun a w G S _ _ ho => by
    have h1 : a.eval x = .int k m := ho x (by simp [Op.operands]) _ hx
    have h2 : a.eval y = .int k' n := ho y (by simp [Op.operands]) _ hy
    refine ⟨.int k (k.wrap (m * 2 ^ n.toNat)), ?_, rfl⟩
    simp only [execOp, h1, h2]
    have e0 : ¬ n < 0 := by omega
    have e1 : min n.toNat k.bits = n.toNat := by omega
    simp [eqGuard, binOp, Op.shift, e0, e1]
theorem op_shl {k' : IntKind} (hx : Opd E x = some (okI k m)) (hy : Opd E y = some (okI k' n)) (hn : 0 ≤ n ∧ n ≤ k.bits) (h : InK k (m * 2 ^ n.toNat)) : OpP P L E ⟨dst, .binOp .shl xt x y yt, ty, pos, after, gd⟩ (okI k (m * 2 ^ n.toNat)) := by
  have := op_shlw (P := P) (L := L) (dst := dst) (ty := ty) (pos := pos) (after := after) (gd := gd) (xt := xt) (yt := yt) hx hy hn; rwa [show k.wrap (m * 2 ^ n.toNat) = m * 2 ^ n.toNat from h] at this
theorem op_shr {k' : IntKind} (hx : Opd E x = some (okI k m)) (hy : Opd E y = some (okI k' n)) (hn : 0 ≤ n ∧ n ≤ k.bits) : OpP P L E ⟨dst, .binOp .shr xt x y yt, ty, pos, after, gd⟩ (okI k (m / 2 ^ n.toNat)) :=
  OpP.same fun a w G S _ _ ho => by
    have h1 : a.eval x = .int k m := ho x (by simp [Op.operands]) _ hx
    have h2 : a.eval y = .int k' n := ho y (by simp [Op.operands]) _ hy
    refine ⟨.int k (m / 2 ^ n.toNat), ?_, rfl⟩
    simp only [execOp, h1, h2]
    have e0 : ¬ n < 0 := by omega
    have e1 : min n.toNat k.bits = n.toNat := by omega
    have e2 : m.fdiv (2 ^ n.toNat) = m / 2 ^ n.toNat := Int.fdiv_eq_ediv_of_nonneg _ (Int.le_of_lt (Int.pow_pos (by decide)))
    simp [eqGuard, binOp, Op.shift, e0, e1, e2]
theorem op_convi {st dt : TypeId} {ds : TypeDesc} (hx : Opd E x = some (okI k m)) {k' : IntKind} (hs : P.underlying st = some ds) (hd : P.underlying dt = some (.int k')) : OpP P L E ⟨dst, .convert st dt x, ty, pos, after, gd⟩ (okI k' (k'.wrap m)) :=
  OpP.same fun a w G S _ _ ho => by
    have h1 : a.eval x = .int k m := ho x (by simp [Op.operands]) _ hx
    refine ⟨.int k' (k'.wrap m), ?_, rfl⟩
    simp only [execOp, h1]
    cases ds <;> simp [convert, run_underlying hs, run_underlying hd, Conv.intToInt]
theorem op_conv {st dt : TypeId} {ds : TypeDesc} (hx : Opd E x = some (okI k m)) {k' : IntKind} (hs : P.underlying st = some ds) (hd : P.underlying dt = some (.int k')) (h : InK k' m) : OpP P L E ⟨dst, .convert st dt x, ty, pos, after, gd⟩ (okI k' m) := by
  have := op_convi (P := P) (L := L) (dst := dst) (ty := ty) (pos := pos) (after := after) (gd := gd) hx hs hd; rwa [show k'.wrap m = m from h] at this
end ints

/-! ### bools -/
theorem run_equal_bool (w : World) {t : TypeId} (b c : Bool) (hu : P.underlying t = some .bool) : (Op.equal t (.bool b) (.bool c)).run P w = .ok (b == c) w := by
  have h : ∀ d, (Op.equalIn (d + 1) t (.bool b) (.bool c)).run P w = .ok (b == c) w := fun d => by simp [Op.equalIn, run_underlying hu]
  exact h 9999
theorem op_not {x : Operand} {b : Bool} {xt : TypeId} (hx : Opd E x = some (Is (.bool b))) : OpP P L E ⟨dst, .unOp .not xt x, ty, pos, after, gd⟩ (Is (.bool (!b))) :=
  OpP.same fun a w G S _ _ ho => by
    have h1 : a.eval x = .bool b := ho x (by simp [Op.operands]) _ hx
    exact ⟨.bool (!b), by simp only [execOp, h1]; simp [Op.unary], rfl⟩
theorem op_eqb {x y : Operand} {b c : Bool} {xt yt : TypeId} (hx : Opd E x = some (Is (.bool b))) (hy : Opd E y = some (Is (.bool c))) (hu : P.underlying xt = some .bool) : OpP P L E ⟨dst, .binOp .eql xt x y yt, ty, pos, after, gd⟩ (Is (.bool (b == c))) :=
  OpP.same fun a w G S _ _ ho => by
    have h1 : a.eval x = .bool b := ho x (by simp [Op.operands]) _ hx
    have h2 : a.eval y = .bool c := ho y (by simp [Op.operands]) _ hy
    refine ⟨.bool (b == c), ?_, rfl⟩
    simp only [execOp, h1, h2]
    simp [eqGuard, binOp, run_equal_bool w b c hu]
theorem op_neb {x y : Operand} {b c : Bool} {xt yt : TypeId} (hx : Opd E x = some (Is (.bool b))) (hy : Opd E y = some (Is (.bool c))) (hu : P.underlying xt = some .bool) : OpP P L E ⟨dst, .binOp .neq xt x y yt, ty, pos, after, gd⟩ (Is (.bool (b != c))) :=
  OpP.same fun a w G S _ _ ho => by
    have h1 : a.eval x = .bool b := ho x (by simp [Op.operands]) _ hx
    have h2 : a.eval y = .bool c := ho y (by simp [Op.operands]) _ hy
    refine ⟨.bool (b != c), ?_, rfl⟩
    simp only [execOp, h1, h2]
    simp [eqGuard, binOp, run_equal_bool w b c hu, bne]

/-! ### strings -/
theorem size_str (l : List UInt8) : (ByteArray.mk l.toArray).size = l.length := by show l.toArray.size = _; simp
theorem op_eqs {x y : Operand} {l m : List UInt8} {xt yt : TypeId} (hx : Opd E x = some (Is (str l))) (hy : Opd E y = some (Is (str m))) : OpP P L E ⟨dst, .binOp .eql xt x y yt, ty, pos, after, gd⟩ (Is (.bool (decide (l = m)))) :=
  OpP.same fun a w G S _ _ ho => by
    have h1 : a.eval x = str l := ho x (by simp [Op.operands]) _ hx
    have h2 : a.eval y = str m := ho y (by simp [Op.operands]) _ hy
    refine ⟨.bool (decide (l = m)), ?_, rfl⟩
    simp only [execOp, h1, h2]
    simp [eqGuard, binOp, str, Op.stringOp]
    by_cases h : l = m <;> simp [h]
theorem op_nes {x y : Operand} {l m : List UInt8} {xt yt : TypeId} (hx : Opd E x = some (Is (str l))) (hy : Opd E y = some (Is (str m))) : OpP P L E ⟨dst, .binOp .neq xt x y yt, ty, pos, after, gd⟩ (Is (.bool (decide (l ≠ m)))) :=
  OpP.same fun a w G S _ _ ho => by
    have h1 : a.eval x = str l := ho x (by simp [Op.operands]) _ hx
    have h2 : a.eval y = str m := ho y (by simp [Op.operands]) _ hy
    refine ⟨.bool (decide (l ≠ m)), ?_, rfl⟩
    simp only [execOp, h1, h2]
    simp [eqGuard, binOp, str, Op.stringOp]
    by_cases h : l = m <;> simp [h]

/-! ### len, extract -/
theorem op_len_sl {x : Operand} {α : Type} {sz : Nat} {f : α → List Ty} {l : List α} {t e : TypeId} (hx : Opd E x = some (TSl sz f l)) (hu : P.underlying t = some (.slice e)) :
    OpP P L E ⟨dst, .call { callee := .builtin .len, args := #[x], argTypes := #[t] }, ty, pos, after, gd⟩ (okI .i64 (l.length : Int)) :=
  OpP.same fun a w G S _ _ ho => by
    obtain ⟨ad, cap, h1, _⟩ := ho x (by simp [Op.operands, Call.operands]) _ hx
    refine ⟨.int .i64 (l.length : Int), ?_, rfl⟩
    simp [execOp, resolve, invoke, builtin, Builtin.len_, h1, run_underlying hu, goInt]
theorem op_len_slx {x : Operand} {α : Type} {sz : Nat} {f : α → List Ty} {l : List α} {t e : TypeId} (hx : Opd E x = some (TSlX sz f l)) (hu : P.underlying t = some (.slice e)) :
    OpP P L E ⟨dst, .call { callee := .builtin .len, args := #[x], argTypes := #[t] }, ty, pos, after, gd⟩ (okI .i64 (l.length : Int)) :=
  OpP.same fun a w G S _ _ ho => by
    obtain ⟨ad, cap, h1, _⟩ := ho x (by simp [Op.operands, Call.operands]) _ hx
    refine ⟨.int .i64 (l.length : Int), ?_, rfl⟩
    simp [execOp, resolve, invoke, builtin, Builtin.len_, h1, run_underlying hu, goInt]
theorem op_len_str {x : Operand} {l : List UInt8} {t : TypeId} (hx : Opd E x = some (Is (str l))) (hu : P.underlying t = some .string) :
    OpP P L E ⟨dst, .call { callee := .builtin .len, args := #[x], argTypes := #[t] }, ty, pos, after, gd⟩ (okI .i64 (l.length : Int)) :=
  OpP.same fun a w G S _ _ ho => by
    have h1 : a.eval x = str l := ho x (by simp [Op.operands, Call.operands]) _ hx
    refine ⟨.int .i64 (l.length : Int), ?_, rfl⟩
    simp only [execOp, resolve]
    simp [invoke, builtin, Builtin.len_, h1, str, run_underlying hu, goInt, size_str]
theorem op_extract {x : Operand} {ts : List Ty} {T : Ty} {j : Nat} (hx : Opd E x = some (TTup ts)) (hj : ts[j]? = some T) : OpP P L E ⟨dst, .extract x j, ty, pos, after, gd⟩ T :=
  OpP.same fun a w G S _ _ ho => by
    obtain ⟨vs, h1, hl, hv⟩ := ho x (by simp [Op.operands]) _ hx
    have hjl : j < ts.length := (List.getElem?_eq_some_iff.1 hj).1
    obtain ⟨u, hu⟩ : ∃ u, vs[j]? = some u := ⟨_, List.getElem?_eq_getElem (by omega)⟩
    refine ⟨u, ?_, hv j T u hj hu⟩
    simp [execOp, h1, Instr.extract, hu]

/-! ### slices that are read -/
theorem op_index {x i : Operand} {α : Type} {sz : Nat} {f : α → List Ty} {l : List α} {n : Int} {k : IntKind} {t e : TypeId} (hx : Opd E x = some (TSl sz f l)) (hi : Opd E i = some (okI k n)) (hu : P.underlying t = some (.slice e)) (hsz : P.cellsOf e = sz) (hinf : (P.info? e).isSome = true)
    (h0 : 0 ≤ n) (h1 : n < (l.length : Int)) {y : α} (hy : l[n.toNat]? = some y) : OpP P L E ⟨dst, .indexAddr t x i, ty, pos, after, gd⟩ (TPc (f y)) :=
  OpP.same fun a w G S _ _ ho => by
    obtain ⟨ad, cap, e1, hlc, hcm, _, hnil, had⟩ := ho x (by simp [Op.operands]) _ hx
    have e2 : a.eval i = .int k n := ho i (by simp [Op.operands]) _ hi
    obtain ⟨inf, hinf⟩ := Option.isSome_iff_exists.1 hinf
    have hs : inf.size = sz := by simpa [Program.cellsOf, hinf] using hsz
    cases ad with
    | none => exact absurd (hnil rfl) (by omega)
    | some ad =>
      obtain ⟨hspot, hel⟩ := had ad rfl
      have hspot := hspot (by omega)
      obtain ⟨hlen, hc⟩ := hel n.toNat y hy
      refine ⟨.pointer (some ⟨ad.block, ad.off + n.toNat * sz, none⟩), ?_, ad.block, _, rfl, hc⟩
      have e3 : ad.add (n.toNat * sz) = ⟨ad.block, ad.off + n.toNat * sz, none⟩ := by
        obtain ⟨b, o, sp⟩ := ad
        simp only at hspot; subst hspot
        unfold Addr.add
        split <;> simp_all
      simp only [execOp, e1, e2]
      simp [Instr.indexAt, asIntOf, run_underlying hu, h0, h1, sizeOf, typeInfo, hinf, hs, e3]

theorem op_load1 {x : Operand} {T : Ty} {ts : List Ty} {t : TypeId} (hx : Opd E x = some (TPc (T :: ts))) (hag : ∀ w, (isAgg t).run P w = .ok false w) : OpP P L E ⟨dst, .load t x, ty, pos, after, gd⟩ T :=
  OpP.same fun a w G S hs _ ho => by
    obtain ⟨b, o, e1, hc⟩ := ho x (by simp [Op.operands]) _ hx
    obtain ⟨u, hu, hT, _⟩ := hc 0 T rfl
    refine ⟨u, ?_, hT⟩
    have hcell := hs b _ u hu
    simp only [Nat.add_zero] at hcell
    simp only [execOp, e1]
    simp [Instr.loadAt, Instr.sureAddr, loadVar, hag, hcell]

theorem getElem?_toArray_cells {G : Imm} {b o : Nat} : ∀ (ts : List Ty), CellsP G b o ts → ∃ vs : List Value, vs.length = ts.length ∧ (∀ (j : Nat) (u : Value), vs[j]? = some u → G b (o + j) = some u) ∧ ∀ (j : Nat) (T : Ty) (u : Value), ts[j]? = some T → vs[j]? = some u → T.p G u ∧ u.oneCell' = true := by
  intro ts
  induction ts generalizing o with
  | nil => intro _; exact ⟨[], rfl, by simp, by simp⟩
  | cons T ts ih =>
    intro h
    obtain ⟨u, hu, hT, h1⟩ := h 0 T rfl
    obtain ⟨vs, hl, ha, hb⟩ := ih (o := o + 1) (fun j T' e => by
      obtain ⟨u', h'⟩ := h (j + 1) T' (by simpa using e)
      exact ⟨u', by rw [show o + 1 + j = o + (j + 1) from by omega]; exact h'.1, h'.2⟩)
    refine ⟨u :: vs, by simp [hl], ?_, ?_⟩
    · intro j v e
      cases j with
      | zero => simp at e; subst e; exact hu
      | succ j => simp at e; rw [show o + (j + 1) = o + 1 + j from by omega]; exact ha j v e
    · intro j T' v e e'
      cases j with
      | zero => simp at e e'; subst e; subst e'; exact ⟨hT, h1⟩
      | succ j => simp at e e'; exact hb j T' v e e'

theorem run_loadCells_row (w : World) (b o : Nat) (vs : List Value) (h : ∀ (j : Nat) (u : Value), vs[j]? = some u → w.cell? ⟨b, o + j, none⟩ = some u) : (loadCells ⟨b, o, none⟩ vs.length).run P w = .ok vs.toArray w := by
  refine run_loadCells_list (P := P) w ⟨b, o, none⟩ vs (fun j u e => ?_)
  have := h j u e
  unfold Addr.add
  split
  · subst j; simpa using this
  · exact this

theorem op_load {x : Operand} {ts : List Ty} {t : TypeId} (hx : Opd E x = some (TPc ts)) (hag : ∀ w, (isAgg t).run P w = .ok true w) (hsz : ∀ w, (sizeOf t).run P w = .ok ts.length w) : OpP P L E ⟨dst, .load t x, ty, pos, after, gd⟩ (TAgg ts) :=
  OpP.same fun a w G S hs _ ho => by
    obtain ⟨b, o, e1, hc⟩ := ho x (by simp [Op.operands]) _ hx
    obtain ⟨vs, hl, ha, hb⟩ := getElem?_toArray_cells ts hc
    refine ⟨.agg vs.toArray, ?_, vs, rfl, hl, hb⟩
    simp only [execOp, e1]
    have hr := run_loadCells_row (P := P) w b o vs (fun j u e => hs b _ u (ha j u e))
    simp [Instr.loadAt, Instr.sureAddr, loadVar, hag, hsz, ← hl, hr]

/-- A slice of a slice. -/
theorem sl_sub {α : Type} {sz : Nat} {f : α → List Ty} {l : List α} {G : Imm} {a : Option Addr} {n cap : Nat} (h : (TSl sz f l).p G (.slice a n cap)) (lo hi : Nat) (h1 : lo ≤ hi) (h2 : hi ≤ l.length) :
    (TSl sz f ((l.take hi).drop lo)).p G (.slice (if cap = lo then a else a.map (·.add (lo * sz))) (hi - lo) (cap - lo)) := by
  obtain ⟨ad, c, e, hlc, hcm, _, hnil, had⟩ := h
  simp only [Value.slice.injEq] at e
  obtain ⟨rfl, rfl, rfl⟩ := e
  refine ⟨(if cap = lo then a else a.map (·.add (lo * sz))), cap - lo, ?_, ?_, ?_, (fun e => by cases e), ?_, ?_⟩
  · have : ((l.take hi).drop lo).length = hi - lo := by simp; omega
    rw [this]
  · simp; omega
  · omega
  · intro hn
    by_cases hc : cap = lo
    · omega
    · simp only [hc, if_false, Option.map_eq_none_iff] at hn
      have := hnil hn; omega
  · intro ad' hn
    by_cases hc : cap = lo
    · simp only [hc, if_true] at hn
      refine ⟨fun hp => ?_, fun i y hy => ?_⟩
      · simp at hp; omega
      · have := (List.getElem?_eq_some_iff.1 hy).1
        simp at this; omega
    · simp only [hc, if_false, Option.map_eq_some_iff] at hn
      obtain ⟨ad0, hn, rfl⟩ := hn
      obtain ⟨hspot, hel⟩ := had ad0 hn
      by_cases hp : 0 < ((l.take hi).drop lo).length
      case neg => exact ⟨fun h => absurd h hp, fun i y hy => by have := (List.getElem?_eq_some_iff.1 hy).1; omega⟩
      have hspot := hspot (by simp at hp; omega)
      have e3 : ad0.add (lo * sz) = ⟨ad0.block, ad0.off + lo * sz, none⟩ := by
        obtain ⟨b, o, sp⟩ := ad0
        simp only at hspot; subst hspot
        unfold Addr.add
        split <;> simp_all
      rw [e3]
      refine ⟨fun _ => rfl, fun i y hy => ?_⟩
      have hy' : l[lo + i]? = some y := by
        rw [List.getElem?_drop, List.getElem?_take] at hy
        split at hy
        · exact hy
        · cases hy
      obtain ⟨g1, g2⟩ := hel (lo + i) y hy'
      refine ⟨g1, ?_⟩
      rw [show ad0.off + lo * sz + i * sz = ad0.off + (lo + i) * sz from by rw [Nat.add_mul]; omega]
      exact g2

theorem run_slice_slice (w : World) {t e : TypeId} {a : Option Addr} {n cap sz : Nat} {lo hi : Option Value} {l h : Int} (hu : P.underlying t = some (.slice e)) (hsz : ∀ w, (sizeOf e).run P w = .ok sz w)
    (hlo : (lo = none ∧ l = 0) ∨ ∃ k, lo = some (.int k l)) (hhi : (hi = none ∧ h = n) ∨ ∃ k, hi = some (.int k h)) (h0 : 0 ≤ l) (h1 : l ≤ h) (h2 : h ≤ cap) :
    (Instr.sliceAt t (.slice a n cap) lo hi none).run P w = .ok (.slice (if cap = l.toNat then a else a.map (·.add (l.toNat * sz))) (h.toNat - l.toNat) (cap - l.toNat)) w := by
  obtain ⟨l, rfl⟩ := Int.eq_ofNat_of_zero_le h0
  obtain ⟨h, rfl⟩ := Int.eq_ofNat_of_zero_le (show 0 ≤ h by omega)
  have g1 : l ≤ h := by omega
  have g2 : h ≤ cap := by omega
  have hlo' : (lo = none ∧ l = 0) ∨ ∃ k, lo = some (.int k l) := hlo.imp (fun ⟨a, b⟩ => ⟨a, by omega⟩) id
  have hhi' : (hi = none ∧ h = n) ∨ ∃ k, hi = some (.int k h) := hhi.imp (fun ⟨a, b⟩ => ⟨a, by omega⟩) id
  clear hlo hhi h0 h1 h2
  rcases hlo' with ⟨rfl, rfl⟩ | ⟨k, rfl⟩ <;> rcases hhi' with ⟨rfl, rfl⟩ | ⟨k', rfl⟩ <;>
    simp [Instr.sliceAt, run_underlying hu, Instr.slice, Instr.sliceBounds, Instr.sliceBound, asIntOf, hsz, g1, g2]

theorem op_slice {x : Operand} {lo hi : Option Operand} {α : Type} {sz : Nat} {f : α → List Ty} {l : List α} {t e : TypeId} {m n : Int} (hx : Opd E x = some (TSl sz f l)) (hu : P.underlying t = some (.slice e)) (hsz : ∀ w, (sizeOf e).run P w = .ok sz w)
    (hlo : (lo = none ∧ m = 0) ∨ ∃ o k, lo = some o ∧ Opd E o = some (okI k m)) (hhi : (hi = none ∧ n = (l.length : Int)) ∨ ∃ o k, hi = some o ∧ Opd E o = some (okI k n)) (h0 : 0 ≤ m) (h1 : m ≤ n) (h2 : n ≤ (l.length : Int)) :
    OpP P L E ⟨dst, .slice t x lo hi none, ty, pos, after, gd⟩ (TSl sz f ((l.take n.toNat).drop m.toNat)) :=
  OpP.same fun a w G S _ _ ho => by
    have hxx : (TSl sz f l).p G (a.eval x) := ho x (by simp [Op.operands]) _ hx
    obtain ⟨ad, cap, e1, hlc, _⟩ := id hxx
    rw [e1] at hxx
    refine ⟨_, ?_, sl_sub hxx m.toNat n.toNat (by omega) (by omega)⟩
    have hr := run_slice_slice (P := P) w (t := t) (e := e) (a := ad) (n := l.length) (cap := cap) (sz := sz) (lo := lo.map a.eval) (hi := hi.map a.eval) (l := m) (h := n) hu hsz
      (by
        rcases hlo with ⟨rfl, rfl⟩ | ⟨o, k, rfl, hk⟩
        · exact .inl ⟨rfl, rfl⟩
        · exact .inr ⟨k, by have : a.eval o = .int k m := ho o (by simp [Op.operands]) _ hk
                            simp [this]⟩)
      (by
        rcases hhi with ⟨rfl, rfl⟩ | ⟨o, k, rfl, hk⟩
        · exact .inl ⟨rfl, rfl⟩
        · exact .inr ⟨k, by have : a.eval o = .int k n := ho o (by simp [Op.operands]) _ hk
                            simp [this]⟩) h0 h1 (by omega)
    simp only [execOp, e1]
    simp [hr]

/-- string(b). -/
theorem op_string {x : Operand} {l : List UInt8} {st dt e : TypeId} (hx : Opd E x = some (TBytes l)) (hs : P.underlying st = some (.slice e)) (he : P.underlying e = some (.int .u8)) (hd : P.underlying dt = some .string) :
    OpP P L E ⟨dst, .convert st dt x, ty, pos, after, gd⟩ (Is (str l)) :=
  OpP.same fun a w G S hsat _ ho => by
    obtain ⟨ad, cap, e1, hlc, hcm, _, hnil, had⟩ := ho x (by simp [Op.operands]) _ hx
    refine ⟨str l, ?_, rfl⟩
    simp only [execOp, e1]
    cases ad with
    | none =>
      have : l.length = 0 := by have := hnil rfl; omega
      have : l = [] := List.eq_nil_of_length_eq_zero this
      subst this
      simp [run_convert_bytes_string (P := P) w st dt e none _ cap hs he hd, Conv.bytesToString, str]
      rfl
    | some ad =>
      obtain ⟨hspot, hel⟩ := had ad rfl
      have hr := run_convert_bytes_back (P := P) w st dt e ad cap l hs he hd (fun j hj => by
        obtain ⟨_, hc⟩ := hel j l[j] (List.getElem?_eq_getElem hj)
        obtain ⟨u, hu, hT, _⟩ := hc 0 _ rfl
        have hcell := hsat _ _ _ hu
        cases hT
        have hspot := hspot (by omega)
        obtain ⟨b, o, sp⟩ := ad
        simp only at hspot; subst hspot
        unfold Addr.add
        split
        · subst j; simpa using hcell
        · simpa using hcell)
      simp [hr, str]

/-! ### calls of Go functions -/
def ArgsT (G : Imm) : List Ty → List Value → Prop
  | [], [] => True
  | T :: A, v :: vs => T.p G v ∧ ArgsT G A vs
  | _, _ => False

/-- A function's contract. -/
structure CallsC (P : Program) (f : FuncId) (A : List Ty) (L : List Res) (T : Value → Ty) (L' : Value → List Res) : Prop where
  enter : ∀ args w, (callFunc f args).run P w = .ok (.enter f args) w
  calls : ∀ (vs : List Value) (w : World) (G : Imm) (S : Nat → Nat → Prop), Sat G w → Owns S L G w → ArgsT G A vs →
    Calls P f vs.toArray w fun e w' => ∃ v G' S', e = .returned v ∧ Ext (fun b => ∃ i, S i b) G w G' w' ∧ Owns S' (L' v) G' w' ∧ (∀ i b, S' i b → w.heap.size ≤ b ∨ ∃ j, S j b) ∧ (T v).p G' v

/-- The contract of a function that only computes. -/
abbrev CFn (P : Program) (f : FuncId) (A : List Ty) (T : Ty) : Prop := CallsC P f A [] (fun _ => T) (fun _ => [])

def Opds (E : Env) : List Operand → List Ty → Prop
  | [], [] => True
  | x :: xs, T :: A => Opd E x = some T ∧ Opds E xs A
  | _, _ => False

theorem Opds.args {E : Env} {G : Imm} {a : Act} : ∀ (xs : List Operand) (A : List Ty), Opds E xs A → (∀ x ∈ xs, ∀ T, Opd E x = some T → T.p G (a.eval x)) → ArgsT G A (xs.map a.eval)
  | [], [], _, _ => trivial
  | x :: xs, T :: A, h, ho => ⟨ho x (by simp) T h.1, Opds.args xs A h.2 (fun y hy => ho y (by simp [hy]))⟩
  | [], _ :: _, h, _ => h.elim
  | _ :: _, [], h, _ => h.elim

theorem run_call_func (w : World) {f : FuncId} {a : Act} {xs : List Operand} {tys : Array TypeId} (he : ∀ args w, (callFunc f args).run P w = .ok (.enter f args) w) {dst : Option Tmp} {ty : TypeId} {pos : String} {after : Array Edge} {gd : Option (Nat × Bool)} :
    (execOp a.eval ⟨dst, .call { callee := .value (.func f), args := xs.toArray, argTypes := tys }, ty, pos, after, gd⟩).run P w = .ok (.enter f (xs.map a.eval).toArray) w := by
  simp [execOp, resolve, Deferred.ofValue, Act.eval, invoke, he]

theorem Owns.none (G : Imm) (w : World) : Owns (fun _ _ => False) [] G w := ⟨fun _ _ h => h.elim, fun _ _ _ h => h.elim, fun _ _ h => h.elim, fun i r h => by simp at h⟩

theorem op_call {f : FuncId} {A : List Ty} {T : Ty} {xs : List Operand} {tys : Array TypeId} (hf : CFn P f A T) (hx : Opds E xs A) :
    OpP P L E ⟨dst, .call { callee := .value (.func f), args := xs.toArray, argTypes := tys }, ty, pos, after, gd⟩ T := by
  intro a w G S hs ho ht K Q k
  simp only [Oper.wp, run_call_func w hf.enter, Oper.upon_enter]
  refine (hf.calls _ w G _ hs (Owns.none G w) (Opds.args xs A hx (fun x hx' => ht x (by simp [Op.operands, Call.operands, hx'])))).mono ?_
  rintro e w' ⟨v, G', S', rfl, hext, -, -, hT⟩
  exact k v w' G' ⟨hext.sat, hext.le, hext.os, hext.tape, hext.output, hext.size, fun b hb _ => hext.blk b hb (fun ⟨_, h⟩ => h)⟩ hT
end
end Go.Vk
namespace Go.Ba
open Go.Vk
structure Cell where
  key : List UInt8
  val : List UInt8
  del : Bool
  seq : Int
deriving DecidableEq
instance : Inhabited Cell := ⟨⟨[], [], false, 0⟩⟩
def cCell (c : Cell) : List Ty := [Is (str c.key), Is (str c.val), Is (.bool c.del), okI .i64 c.seq]
def encC (c : Cell) : List Value := [str c.key, str c.val, .bool c.del, .int .i64 c.seq]
theorem encC_len (c : Cell) : (encC c).length = 4 := rfl
theorem encC_one (c : Cell) : ∀ v ∈ encC c, v.oneCell' = true := fun v hv => by
  simp only [encC, List.mem_cons, List.not_mem_nil, or_false] at hv
  rcases hv with rfl | rfl | rfl | rfl <;> rfl
theorem cCell_enc (c : Cell) : cCell c = (encC c).map Is := rfl
def cmpK (x y : Cell) : Int := Lib.compareBytes x.key y.key
end Go.Ba
namespace Go.Proofs.Ytniogecifadccaa
open Go.Shelf Go.RowKit Go.Lib Go.Sort Go.Proofs Go.Vk
def Try.sortCell_ren : Go.Shelf.Ren := ⟨fun | 6 => 21 | 15 => 40 | 14 => 39 | 28 => 56 | 29 => 57 | 20 => 48 | 21 => 49 | 22 => 50 | 23 => 51 | 24 => 52 | 25 => 53 | 26 => 54 | 27 => 55 | 46 => 59 | 47 => 60 | 48 => 61 | 49 => 62 | 50 => 63 | 57 => 64 | n => n, fun | 22 => 24 | 24 => 27 | 25 => 51 | 3 => 3 | 39 => 69 | 0 => 0 | 53 => 86 | 55 => 72 | 4 => 4 | 46 => 79 | 45 => 78 | 50 => 83 | 5 => 5 | 9 => 9 | 66 => 88 | 70 => 92 | 76 => 94 | 77 => 95 | n => n, fun | n => n⟩
theorem Try.sortCell : Go.Proofs.SlLaysF0.n6 Try.prog Try.sortCell_ren := {
  mixed := by kernel_rfl
  f6 := ⟨Try.f21.name, by decide, Try.func21.trans (congrArg some (by kernel_rfl))⟩
  f14 := ⟨Try.f39.name, by decide, Try.func39.trans (congrArg some (by kernel_rfl))⟩
  f15 := Try.func40.trans (congrArg some (by kernel_rfl))
  f20 := ⟨Try.f48.name, by decide, Try.func48.trans (congrArg some (by kernel_rfl))⟩
  f21 := ⟨Try.f49.name, by decide, Try.func49.trans (congrArg some (by kernel_rfl))⟩
  f22 := ⟨Try.f50.name, by decide, Try.func50.trans (congrArg some (by kernel_rfl))⟩
  f23 := ⟨Try.f51.name, by decide, Try.func51.trans (congrArg some (by kernel_rfl))⟩
  f24 := ⟨Try.f52.name, by decide, Try.func52.trans (congrArg some (by kernel_rfl))⟩
  f25 := ⟨Try.f53.name, by decide, Try.func53.trans (congrArg some (by kernel_rfl))⟩
  f26 := ⟨Try.f54.name, by decide, Try.func54.trans (congrArg some (by kernel_rfl))⟩
  f27 := ⟨Try.f55.name, by decide, Try.func55.trans (congrArg some (by kernel_rfl))⟩
  f28 := Try.func56.trans (congrArg some (by kernel_rfl))
  f29 := Try.func57.trans (congrArg some (by kernel_rfl))
  f46 := ⟨Try.f59.name, by decide, Try.func59.trans (congrArg some (by kernel_rfl))⟩
  f47 := Try.func60.trans (congrArg some (by kernel_rfl))
  f48 := Try.func61.trans (congrArg some (by kernel_rfl))
  f49 := ⟨Try.f62.name, by decide, Try.func62.trans (congrArg some (by kernel_rfl))⟩
  f50 := ⟨Try.f63.name, by decide, Try.func63.trans (congrArg some (by kernel_rfl))⟩
  f57 := ⟨Try.f64.name, by decide, Try.func64.trans (congrArg some (by kernel_rfl))⟩
  t0 := Try.underlying0
  a0 := Try.isAgg0
  z0 := Try.sizeOf0
  v0 := Try.zeroValue0
  t3 := Try.underlying3
  a3 := Try.isAgg3
  z3 := Try.sizeOf3
  v3 := Try.zeroValue3
  t4 := Try.underlying4
  a4 := Try.isAgg4
  z4 := Try.sizeOf4
  v4 := Try.zeroValue4
  t5 := Try.underlying5
  a5 := Try.isAgg5
  z5 := Try.sizeOf5
  v5 := Try.zeroValue5
  t9 := Try.underlying9
  a9 := Try.isAgg9
  z9 := Try.sizeOf9
  v9 := Try.zeroValue9
  t22 := Try.underlying24
  a22 := Try.isAgg24
  z22 := Try.sizeOf24
  v22 := Try.zeroValue24
  t25 := Try.underlying51
  a25 := Try.isAgg51
  z25 := Try.sizeOf51
  v25 := Try.zeroValue51
  t39 := Try.underlying69
  a39 := Try.isAgg69
  z39 := Try.sizeOf69
  v39 := Try.zeroValue69
  t45 := Try.underlying78
  a45 := Try.isAgg78
  z45 := Try.sizeOf78
  v45 := Try.zeroValue78
  t46 := Try.underlying79
  a46 := Try.isAgg79
  z46 := Try.sizeOf79
  v46 := Try.zeroValue79
  t50 := Try.underlying83
  a50 := Try.isAgg83
  z50 := Try.sizeOf83
  v50 := Try.zeroValue83
  t53 := Try.underlying86
  a53 := Try.isAgg86
  z53 := Try.sizeOf86
  v53 := Try.zeroValue86
  t55 := Try.underlying72
  a55 := Try.isAgg72
  z55 := Try.sizeOf72
  v55 := Try.zeroValue72
  t66 := Try.underlying88
  a66 := Try.isAgg88
  z66 := Try.sizeOf88
  v66 := Try.zeroValue88
  t70 := Try.underlying92
  a70 := Try.isAgg92
  z70 := Try.sizeOf92
  v70 := Try.zeroValue92
  t76 := Try.underlying94
  a76 := Try.isAgg94
  z76 := Try.sizeOf94
  v76 := Try.zeroValue94
  t77 := Try.underlying95
  a77 := Try.isAgg95
  z77 := Try.sizeOf95
  v77 := Try.zeroValue95 }
def Try.strCmp_ren : Go.Shelf.Ren := ⟨fun | 106 => 23 | 213 => 41 | 265 => 58 | n => n, fun | 9 => 9 | 3 => 3 | n => n, fun | n => n⟩
theorem Try.strCmp : Go.Proofs.Lays.n106 Try.prog Try.strCmp_ren := {
  mixed := by kernel_rfl
  f106 := Try.func23.trans (congrArg some (by kernel_rfl))
  f213 := Try.func41.trans (congrArg some (by kernel_rfl))
  f265 := Try.func58.trans (congrArg some (by kernel_rfl))
  t3 := Try.underlying3
  a3 := Try.isAgg3
  z3 := Try.sizeOf3
  v3 := Try.zeroValue3
  t9 := Try.underlying9
  a9 := Try.isAgg9
  z9 := Try.sizeOf9
  v9 := Try.zeroValue9 }
set_option maxHeartbeats 1000000 in
theorem baCells1 (x y : Ba.Cell) (W : World) : Calls Try.prog 22 #[.agg (Ba.encC x).toArray, .agg (Ba.encC y).toArray] W fun e w' => e = .returned (.int .i64 (Ba.cmpK x y)) ∧ ∃ q os', w' = grow (W.drewN q) os' := by
  have hcon := fun W' => Any.strings_Compare Try.strCmp ⟨x.key.toArray⟩ ⟨y.key.toArray⟩ W'
  change ∀ W', Calls Try.prog 23 _ _ _ at hcon
  unfold Ba.cmpK
  have e1 : (ByteArray.mk x.key.toArray).data.toList = x.key := rfl
  have e2 : (ByteArray.mk y.key.toArray).data.toList = y.key := rfl
  rw [e1, e2] at hcon
  generalize Lib.compareBytes x.key y.key = r at hcon ⊢
  unfold Ba.encC str
  go_enter Try.func22, Try.ntmps22
  go_wp2_with (go_at_call 23; refine (hcon _).mono ?_; rintro e w' ⟨rfl, rfl⟩)
  go_ret
  exact ⟨rfl, 0, _, by rw [alloc_eq_grow, alloc_eq_grow, grow_grow]; rfl⟩
end Go.Proofs.Ytniogecifadccaa
