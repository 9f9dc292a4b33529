/-
  Variables of one's own: a block of cells that may be written; its addresses, loads and stores; blocks that are laid for good. Nothing here speaks of a program; no conditions.
  Calls that are handed what is one's own, and returns that hand it back. Nothing here speaks of a program; no conditions.
  Returns that hand resources back, results that are variables; loops and joints with resources. Nothing here speaks of a program; no conditions.
-/
import Derived.Test.YtphakclfahianaaDoorGac
import Derived.Laws.CopyRow
set_option linter.unusedSimpArgs false
set_option linter.unusedVariables false
set_option linter.unusedVariables false
namespace Go.Vk

/-- The address of a cell. -/
abbrev pAt (g o : Nat) : Value := .pointer (some ⟨g, o, none⟩)
/-- The block that a pointer points into. -/
def blk : Value → Nat
  | .pointer (some a) => a.block
  | _ => 0
theorem blk_pAt (g o : Nat) : blk (pAt g o) = g := rfl
/-- A block of one's own: its cells are as ts says. -/
def ownP (g : Nat) (e : TypeId) (ts : List Ty) : Res where
  p S G w := (∀ b, S b ↔ b = g) ∧ (∃ cs, w.heap[g]? = some (.cells cs e (0, 0)) ∧ cs.size = ts.length ∧ ∀ (j : Nat) (T : Ty), ts[j]? = some T → ∃ u, cs[j]? = some u ∧ T.p G u ∧ u.oneCell' = true) ∧ ∀ o, G g o = none
  loc := by
    rintro S G w G' w' ⟨h1, ⟨cs, h2, h3, h4⟩, h5⟩ hle hb
    obtain ⟨e1, e2⟩ := hb g ((h1 g).2 rfl)
    exact ⟨h1, ⟨cs, by rw [e1]; exact h2, h3, fun j T hj => let ⟨u, a, b, c⟩ := h4 j T hj; ⟨u, a, T.mono hle b, c⟩⟩, fun o => by rw [e2]; exact h5 o⟩

/-- A value of type T takes one cell. -/
def One (T : Ty) : Prop := ∀ G v, T.p G v → v.oneCell' = true
theorem One.is {v : Value} (h : v.oneCell' = true) : One (Is v) := fun _ _ k => by cases k; exact h
theorem One.sl {α : Type} (sz : Nat) (f : α → List Ty) (l : List α) : One (TSl sz f l) := fun _ _ ⟨_, _, e, _⟩ => by rw [e]; rfl
theorem One.slx {α : Type} (sz : Nat) (f : α → List Ty) (l : List α) : One (TSlX sz f l) := fun _ _ ⟨_, _, e, _⟩ => by rw [e]; rfl
theorem One.andR {T U : Ty} (h : One U) : One (TAnd T U) := fun _ _ k => h _ _ k.2
theorem One.pc (ts : List Ty) : One (TPc ts) := fun _ _ ⟨_, _, e, _⟩ => by rw [e]; rfl

/-- Where a field lies. -/
def fieldOff (P : Program) (s : TypeId) (i : Nat) : Option Nat :=
  match P.underlying s with
  | some (.struct fields) => (match fields[i]? with
    | some f => (match P.info? f.type with
      | some inf => if inf.size = 0 then none else some f.offset
      | none => none)
    | none => none)
  | _ => none
def aggB (P : Program) (t : TypeId) : Option Bool :=
  match P.underlying t with
  | some (.struct _) => some true
  | some (.array _ _) => some true
  | some _ => some false
  | none => none

section
variable {P : Program} {L : List Res} {E : Env} {dst : Option Tmp} {ty : TypeId} {pos : String} {after : Array Edge} {gd : Option (Nat × Bool)}

theorem run_isAgg {t : TypeId} {b : Bool} (h : aggB P t = some b) (w : World) : (isAgg t).run P w = .ok b w := by
  unfold aggB at h
  cases hu : P.underlying t with
  | none => rw [hu] at h; cases h
  | some d =>
    rw [hu] at h
    unfold isAgg
    rw [Sem.run_bind, run_underlying hu w]
    cases d <;> simp_all
theorem run_sizeOf {t : TypeId} {n : Nat} (h : (P.info? t).map (·.size) = some n) (w : World) : (sizeOf t).run P w = .ok n w := by
  cases hq : P.info? t with
  | none => rw [hq] at h; cases h
  | some i => rw [hq] at h; simp at h; simp [sizeOf, typeInfo, hq, h]
theorem run_zeroValue {t : TypeId} {z : Value} (h : (P.info? t).map (·.zero) = some (some z)) (w : World) : (zeroValue t).run P w = .ok z w := by
  cases hq : P.info? t with
  | none => rw [hq] at h; cases h
  | some i => rw [hq] at h; simp at h; simp [zeroValue, typeInfo, hq, h]
theorem run_fieldAt (w : World) {s : TypeId} {i off : Nat} (h : fieldOff P s i = some off) (g o : Nat) : (Instr.fieldAt s (pAt g o) i).run P w = .ok (pAt g (o + off)) w := by
  unfold fieldOff at h
  cases hu : P.underlying s with
  | none => rw [hu] at h; cases h
  | some d =>
    rw [hu] at h
    cases d <;> try (simp at h)
    rename_i fields
    cases hf : fields[i]? with
    | none => rw [hf] at h; cases h
    | some f =>
      rw [hf] at h
      dsimp only at h
      cases hi : P.info? f.type with
      | none => rw [hi] at h; cases h
      | some inf =>
        rw [hi] at h
        dsimp only at h
        by_cases h0 : inf.size = 0
        · rw [if_pos h0] at h; cases h
        · rw [if_neg h0] at h
          simp only [Option.some.injEq] at h
          subst h
          have hsz := run_sizeOf (P := P) (t := f.type) (n := inf.size) (by rw [hi]; rfl) w
          have hadd : (⟨g, o, none⟩ : Addr).add f.offset = ⟨g, o + f.offset, none⟩ := by unfold Addr.add; split <;> simp_all
          unfold Instr.fieldAt
          simp only [Sem.run_bind, run_underlying hu w, Result.andThen_ok, hf]
          simp [Instr.sureAddr, fieldPlace, hsz, h0, hadd]

/-! ### addresses -/
theorem op_nilP {x : Operand} {g o : Nat} (hx : Opd E x = some (Is (pAt g o))) : OpP P L E ⟨dst, .nilCheck x, ty, pos, after, gd⟩ (Is (pAt g o)) :=
  OpP.same fun a w G S _ _ h => by
    have h1 : a.eval x = pAt g o := h x (by simp [Op.operands]) _ hx
    exact ⟨pAt g o, by simp [execOp, h1], rfl⟩
theorem op_nilC {x : Operand} {ts : List Ty} (hx : Opd E x = some (TPc ts)) : OpP P L E ⟨dst, .nilCheck x, ty, pos, after, gd⟩ (TPc ts) :=
  OpP.same fun a w G S _ _ h => by
    obtain ⟨b, o, h1, h2⟩ := h x (by simp [Op.operands]) _ hx
    exact ⟨pAt b o, by simp [execOp, h1], b, o, rfl, h2⟩
theorem op_faddrP {x : Operand} {g o off o' : Nat} {s : TypeId} {i : Nat} (hx : Opd E x = some (Is (pAt g o))) (hf : fieldOff P s i = some off) (ho : o + off = o') : OpP P L E ⟨dst, .fieldAddr s x i, ty, pos, after, gd⟩ (Is (pAt g o')) :=
  OpP.same fun a w G S _ _ h => by
    have h1 : a.eval x = pAt g o := h x (by simp [Op.operands]) _ hx
    subst ho
    refine ⟨pAt g (o + off), ?_, rfl⟩
    simp only [execOp, h1]
    simp [run_fieldAt w hf]
theorem op_faddrC {x : Operand} {ts ts' : List Ty} {off : Nat} {s : TypeId} {i : Nat} (hx : Opd E x = some (TPc ts)) (hf : fieldOff P s i = some off) (ht : ts.drop off = ts') : OpP P L E ⟨dst, .fieldAddr s x i, ty, pos, after, gd⟩ (TPc ts') :=
  OpP.same fun a w G S _ _ h => by
    obtain ⟨b, o, h1, h2⟩ := h x (by simp [Op.operands]) _ hx
    refine ⟨pAt b (o + off), ?_, b, o + off, rfl, ?_⟩
    · simp only [execOp, h1]
      simp [run_fieldAt w hf]
    · subst ht
      intro j T hj
      rw [List.getElem?_drop] at hj
      have := h2 _ _ hj
      rwa [show o + off + j = o + (off + j) from by omega]
theorem op_loadN {x : Operand} {ts ts' : List Ty} {n : Nat} {t : TypeId} (hx : Opd E x = some (TPc ts)) (hag : aggB P t = some true) (hsz : (P.info? t).map (·.size) = some n) (ht : ts.take n = ts') (hn : ts'.length = n) : OpP P L E ⟨dst, .load t x, ty, pos, after, gd⟩ (TAgg ts') :=
  OpP.same fun a w G S hs _ ho => by
    obtain ⟨b, o, e1, hc⟩ := ho x (by simp [Op.operands]) _ hx
    have hc' : CellsP G b o ts' := by
      subst ht
      intro j T hj
      rw [List.getElem?_take] at hj
      split at hj
      · exact hc j T hj
      · cases hj
    obtain ⟨vs, hl, ha, hb⟩ := getElem?_toArray_cells ts' hc'
    refine ⟨.agg vs.toArray, ?_, vs, rfl, hl, hb⟩
    simp only [execOp, e1]
    have hr := run_loadCells_row (P := P) w b o vs (fun j u e => hs b _ u (ha j u e))
    rw [hl, hn] at hr
    simp [Instr.loadAt, Instr.sureAddr, loadVar, run_isAgg hag, run_sizeOf hsz, hr]

/-! ### loads and stores of one's own -/
theorem ownP.at {i : Nat} {g : Nat} {e : TypeId} {ts : List Ty} {S : Nat → Nat → Prop} {G : Imm} {w : World} (h : Owns S L G w) (hL : L[i]? = some (ownP g e ts)) : (∀ b, S i b ↔ b = g) ∧ (∃ cs, w.heap[g]? = some (.cells cs e (0, 0)) ∧ cs.size = ts.length ∧ ∀ (j : Nat) (T : Ty), ts[j]? = some T → ∃ u, cs[j]? = some u ∧ T.p G u ∧ u.oneCell' = true) ∧ ∀ o, G g o = none :=
  h.res i _ hL
theorem op_loadO {x : Operand} {g o : Nat} {e : TypeId} {ts : List Ty} {T : Ty} {t : TypeId} (i : Nat) (hx : Opd E x = some (Is (pAt g o))) (hL : L[i]? = some (ownP g e ts)) (hT : ts[o]? = some T) (hag : aggB P t = some false) : OpP P L E ⟨dst, .load t x, ty, pos, after, gd⟩ T :=
  OpP.same fun a w G S hs ho ht => by
    have h1 : a.eval x = pAt g o := ht x (by simp [Op.operands]) _ hx
    obtain ⟨_, ⟨cs, h2, h3, h4⟩, _⟩ := ownP.at ho hL
    obtain ⟨u, h5, h6, _⟩ := h4 o T hT
    refine ⟨u, ?_, h6⟩
    have hcell : w.cell? ⟨g, o, none⟩ = some u := by simp [World.cell?, h2, h5]
    simp only [execOp, h1]
    simp [Instr.loadAt, Instr.sureAddr, loadVar, run_isAgg hag, hcell]
theorem op_loadAO {x : Operand} {g o n : Nat} {e : TypeId} {ts ts' : List Ty} {t : TypeId} (i : Nat) (hx : Opd E x = some (Is (pAt g o))) (hL : L[i]? = some (ownP g e ts)) (hag : aggB P t = some true) (hsz : (P.info? t).map (·.size) = some n) (ht : (ts.drop o).take n = ts') (hn : ts'.length = n) : OpP P L E ⟨dst, .load t x, ty, pos, after, gd⟩ (TAgg ts') :=
  OpP.same fun a w G S hs ho htt => by
    have h1 : a.eval x = pAt g o := htt x (by simp [Op.operands]) _ hx
    obtain ⟨_, ⟨cs, h2, h3, h4⟩, _⟩ := ownP.at ho hL
    have hlen : ((cs.toList.drop o).take n).length = n := by
      have := congrArg List.length ht
      simp only [List.length_take, List.length_drop, Array.length_toList] at this ⊢
      omega
    refine ⟨.agg ((cs.toList.drop o).take n).toArray, ?_, _, rfl, by rw [hlen, hn], ?_⟩
    · have hr := run_loadCells_row (P := P) w g o ((cs.toList.drop o).take n) (fun j u e => by
        rw [List.getElem?_take] at e
        split at e
        · rw [List.getElem?_drop] at e
          simp [World.cell?, h2]
          simpa using e
        · cases e)
      rw [hlen] at hr
      simp only [execOp, h1]
      simp [Instr.loadAt, Instr.sureAddr, loadVar, run_isAgg hag, run_sizeOf hsz, hr]
    · intro j T u e1 e2
      subst ht
      rw [List.getElem?_take] at e1 e2
      split at e1
      · rw [List.getElem?_drop] at e1
        rw [if_pos (by assumption), List.getElem?_drop] at e2
        obtain ⟨u', h5, h6, h7⟩ := h4 _ _ e1
        have : u' = u := by
          have e3 : cs[o + j]? = some u := by simpa using e2
          rw [h5] at e3; cases e3; rfl
        subst this; exact ⟨h6, h7⟩
      · cases e1

/-- A block of one's own is written anew. -/
theorem Owns.write {i g : Nat} {e : TypeId} {ts ts' : List Ty} {S : Nat → Nat → Prop} {G : Imm} {w : World} (hs : Sat G w) (ho : Owns S L G w) (hL : L[i]? = some (ownP g e ts)) {cs cs' : Array Value} (hc : w.heap[g]? = some (.cells cs e (0, 0))) (hsz : cs'.size = ts'.length)
    (hv : ∀ (j : Nat) (T : Ty), ts'[j]? = some T → ∃ u, cs'[j]? = some u ∧ T.p G u ∧ u.oneCell' = true) :
    Ext (fun b => ∃ i, S i b) G w G (w.setRow g cs') ∧ Owns (fun j b => if j = i then b = g else S j b) (L.set i (ownP g e ts')) G (w.setRow g cs') ∧ ∀ j b, (if j = i then b = g else S j b) → w.heap.size ≤ b ∨ ∃ k, S k b := by
  obtain ⟨hS, _, hfree⟩ := ownP.at ho hL
  have hiL : i < L.length := (List.getElem?_eq_some_iff.1 hL).1
  have hgS : S i g := (hS g).2 rfl
  have hext : Ext (fun b => b = g) G w G (w.setRow g cs') := by
    refine ⟨?_, Imm.le.refl G, rfl, rfl, rfl, by simp, fun b _ hb => ⟨setRow_other w g b cs' hb, fun _ => rfl⟩⟩
    intro b o v hb
    have hbg : b ≠ g := fun e => by subst e; rw [hfree] at hb; cases hb
    rw [cell_setRow_other w g cs' ⟨b, o, Option.none⟩ hbg]
    exact hs b o v hb
  refine ⟨⟨hext.sat, hext.le, hext.os, hext.tape, hext.output, hext.size, fun b hb hz => hext.blk b hb (fun e => hz ⟨i, by rw [e]; exact hgS⟩)⟩, ?_, ?_⟩
  · exact ho.set hext hiL (fun b hb => by rw [hb]; exact hgS) (ownP g e ts') (fun b => b = g) (fun b hb => ⟨.inl (by rw [hb]; exact hgS), by rw [hb]; simpa using ho.bound i g hgS⟩)
      ⟨fun b => Iff.rfl, ⟨cs', setRow_heap w g cs cs' e (0, 0) hc, hsz, hv⟩, hfree⟩
  · intro j b hb
    by_cases hj : j = i
    · simp only [hj, if_true] at hb; exact .inr ⟨i, by rw [hb]; exact hgS⟩
    · simp only [hj, if_false] at hb; exact .inr ⟨j, hb⟩

theorem op_storeO {x y : Operand} {g o : Nat} {e : TypeId} {ts ts' : List Ty} {T : Ty} {t : TypeId} {L' : List Res} (i : Nat) (hx : Opd E x = some (Is (pAt g o))) (hy : Opd E y = some T) (h1c : One T) (hL : L[i]? = some (ownP g e ts)) (hsz : (P.info? t).map (·.size) = some 1) (hlt : Nat.blt o ts.length = true) (ht : ts.set o T = ts') (hL' : L.set i (ownP g e ts') = L') :
    OpC P L E ⟨dst, .store t x y, ty, pos, after, gd⟩ (fun v => Is v) (fun _ => L') := by
  intro a w G S hs ho htt K Q k
  have h1 : a.eval x = pAt g o := htt x (by simp [Op.operands]) _ hx
  have h2 : T.p G (a.eval y) := htt y (by simp [Op.operands]) _ hy
  have h3 := h1c G _ h2
  have hlt' : o < ts.length := Nat.le_of_ble_eq_true hlt
  obtain ⟨_, ⟨cs, hc, hcs, hv⟩, hfree⟩ := ownP.at ho hL
  have hcell : w.cell? ⟨g, o, none⟩ = some (cs[o]'(by omega)) := by simp [World.cell?, hc, hcs, hlt']
  have hfro : w.frozen? ⟨g, o, none⟩ = false := by simp [World.frozen?, hc]
  have hcells : (a.eval y).cells = #[a.eval y] := by
    revert h3; cases a.eval y <;> simp [Value.oneCell', Value.cells]
  have hrun : (execOp a.eval (⟨dst, .store t x y, ty, pos, after, gd⟩ : Oper)).run P w = .ok .skip (w.setRow g (cs.setIfInBounds o (a.eval y))) := by
    simp only [execOp, h1]
    have hst := run_store P w ⟨g, o, none⟩ (a.eval y) .plain h3
    rw [hcell] at hst
    simp only [hfro, setCell_eq_setRow w g o cs e (0, 0) _ hc] at hst
    simp [Instr.storeAt, Instr.sureAddr, storeVar, run_sizeOf hsz, hcells, storeCells, Addr.add, hst]
  obtain ⟨a1, a2, a3⟩ := Owns.write (ts' := ts') hs ho hL (cs' := cs.setIfInBounds o (a.eval y)) hc (by subst ht; simp [hcs]) (by
    subst ht
    intro j U hj
    rw [List.getElem?_set] at hj
    by_cases hoj : o = j
    · subst hoj
      rw [if_pos rfl, if_pos hlt'] at hj
      cases hj
      exact ⟨a.eval y, by simp [hcs, hlt'], h2, h3⟩
    · rw [if_neg hoj] at hj
      obtain ⟨u, b1, b2, b3⟩ := hv j U hj
      exact ⟨u, by rw [Array.getElem?_setIfInBounds, if_neg hoj]; exact b1, b2, b3⟩)
  subst hL'
  simp only [Oper.wp, hrun, Oper.upon_skip]
  exact k undef _ G _ a1 a2 a3 rfl
theorem op_storeAO {x y : Operand} {g o n : Nat} {e : TypeId} {ts ts' us : List Ty} {t : TypeId} {L' : List Res} (i : Nat) (hx : Opd E x = some (Is (pAt g o))) (hy : Opd E y = some (TAgg us)) (hL : L[i]? = some (ownP g e ts)) (hsz : (P.info? t).map (·.size) = some n) (hn : us.length = n) (hlt : Nat.ble (o + n) ts.length = true) (ht : ts.take o ++ us ++ ts.drop (o + n) = ts') (hL' : L.set i (ownP g e ts') = L') :
    OpC P L E ⟨dst, .store t x y, ty, pos, after, gd⟩ (fun v => Is v) (fun _ => L') := by
  intro a w G S hs ho htt K Q k
  have h1 : a.eval x = pAt g o := htt x (by simp [Op.operands]) _ hx
  obtain ⟨vs, h2, h3, h4⟩ := htt y (by simp [Op.operands]) _ hy
  have hlt' : o + n ≤ ts.length := Nat.le_of_ble_eq_true hlt
  obtain ⟨_, ⟨cs, hc, hcs, hv⟩, hfree⟩ := ownP.at ho hL
  have hone : ∀ v ∈ vs, v.oneCell' = true := by
    intro v hv'
    obtain ⟨j, hj, e'⟩ := List.getElem_of_mem hv'
    exact (h4 j us[j] v (List.getElem?_eq_getElem (by omega)) (by rw [List.getElem?_eq_getElem hj, e'])).2
  have hst := run_storeCells_at (P := P) g o e vs 0 cs w hc (by omega) hone
  have hrun : (execOp a.eval (⟨dst, .store t x y, ty, pos, after, gd⟩ : Oper)).run P w = .ok .skip (w.setRow g (cs.toList.take (o + 0) ++ vs ++ cs.toList.drop (o + 0 + vs.length)).toArray) := by
    simp only [execOp, h1, h2]
    simp [Instr.storeAt, Instr.sureAddr, storeVar, run_sizeOf hsz, Value.cells, h3, hn, hst]
  obtain ⟨a1, a2, a3⟩ := Owns.write (ts' := ts') hs ho hL (cs' := (cs.toList.take (o + 0) ++ vs ++ cs.toList.drop (o + 0 + vs.length)).toArray) hc (by subst ht; simp; omega) (by
    subst ht
    intro j U hj
    simp only [Nat.add_zero, List.getElem?_toArray]
    rw [List.append_assoc, List.getElem?_append] at hj ⊢
    simp only [List.length_take, Array.length_toList] at hj ⊢
    by_cases hjo : j < o
    · rw [if_pos (by omega), List.getElem?_take, if_pos hjo] at hj
      rw [if_pos (by omega), List.getElem?_take, if_pos hjo]
      obtain ⟨u, b1, b2, b3⟩ := hv j U hj
      exact ⟨u, by simpa using b1, b2, b3⟩
    · rw [if_neg (by omega), show min o ts.length = o from by omega, List.getElem?_append] at hj
      rw [if_neg (by omega), show min o cs.size = o from by omega, List.getElem?_append]
      by_cases hjn : j - o < us.length
      · rw [if_pos hjn] at hj
        rw [if_pos (by omega)]
        obtain ⟨u, hu⟩ : ∃ u, vs[j - o]? = some u := ⟨_, List.getElem?_eq_getElem (by omega)⟩
        exact ⟨u, hu, h4 _ _ _ hj hu⟩
      · rw [if_neg hjn, List.getElem?_drop] at hj
        rw [if_neg (by omega), List.getElem?_drop]
        obtain ⟨u, b1, b2, b3⟩ := hv _ U hj
        refine ⟨u, ?_, b2, b3⟩
        rw [← b1, show o + vs.length + (j - o - vs.length) = o + n + (j - o - us.length) from by omega]
        simp)
  subst hL'
  simp only [Oper.wp, hrun, Oper.upon_skip]
  exact k undef _ G _ a1 a2 a3 rfl

/-! ### new variables -/
theorem fresh_own {G : Imm} {w : World} {S : Nat → Nat → Prop} (hs : Sat G w) (ho : Owns S L G w) {e : TypeId} {cs : Array Value} {ts : List Ty} (hsz : cs.size = ts.length) (hv : ∀ (j : Nat) (T : Ty), ts[j]? = some T → ∃ u, cs[j]? = some u ∧ T.p G u ∧ u.oneCell' = true) :
    Ext (fun b => ∃ i, S i b) G w G (w.alloc (.cells cs e)) ∧ Owns (fun j b => if j = L.length then b = w.heap.size else S j b) (L ++ [ownP w.heap.size e ts]) G (w.alloc (.cells cs e)) ∧ ∀ j b, (if j = L.length then b = w.heap.size else S j b) → w.heap.size ≤ b ∨ ∃ k, S k b := by
  have hfree : ∀ o, G w.heap.size o = none := fun o => by
    cases h : G w.heap.size o with
    | none => rfl
    | some v => exact absurd (hs.lt h) (by omega)
  have hold : ∀ b, b < w.heap.size → (w.alloc (.cells cs e)).heap[b]? = w.heap[b]? := fun b hb => RowKit.Below.heap_alloc w _ b hb
  have hext : Ext noZ G w G (w.alloc (.cells cs e)) := by
    refine ⟨?_, Imm.le.refl G, rfl, rfl, rfl, by simp, fun b hb _ => ⟨hold b hb, fun _ => rfl⟩⟩
    intro b o v hb
    have := hs b o v hb
    simp only [World.cell?] at this ⊢
    rw [hold b (hs.lt hb)]; exact this
  refine ⟨⟨hext.sat, hext.le, hext.os, hext.tape, hext.output, hext.size, fun b hb _ => hext.blk b hb (fun z => z)⟩, ?_, ?_⟩
  · exact ho.snoc hext (ownP w.heap.size e ts) (fun b => b = w.heap.size) (fun b hb => ⟨by omega, by rw [hb]; simp⟩) ⟨fun b => Iff.rfl, ⟨cs, heap_new w _, hsz, hv⟩, hfree⟩
  · intro j b hb
    by_cases hj : j = L.length
    · simp only [hj, if_true] at hb; exact .inl (by omega)
    · simp only [hj, if_false] at hb; exact .inr ⟨j, hb⟩
/-- The types of some values. -/
def LitT : List Value → List Ty → Prop
  | [], [] => True
  | v :: vs, T :: ts => (T.p (fun _ _ => none) v ∧ v.oneCell' = true) ∧ LitT vs ts
  | _, _ => False
theorem LitT.at : ∀ (vs : List Value) (ts : List Ty), LitT vs ts → vs.length = ts.length ∧ ∀ (j : Nat) (T : Ty), ts[j]? = some T → ∃ u, vs[j]? = some u ∧ T.p (fun _ _ => none) u ∧ u.oneCell' = true
  | [], [], _ => ⟨rfl, fun j T h => by simp at h⟩
  | v :: vs, T :: ts, ⟨h, k⟩ => by
    obtain ⟨h1, h2⟩ := LitT.at vs ts k
    refine ⟨by simp [h1], fun j U hj => ?_⟩
    cases j with
    | zero => simp at hj; subst hj; exact ⟨v, rfl, h⟩
    | succ j => simpa using h2 j U (by simpa using hj)
  | [], _ :: _, h => h.elim
  | _ :: _, [], h => h.elim
theorem op_alloc {e : TypeId} {z : Value} {zs : List Value} {ts : List Ty} (hz : (P.info? e).map (·.zero) = some (some z)) (hc : z.cells.toList = zs) (ht : LitT zs ts) :
    OpC P L E ⟨dst, .alloc e, ty, pos, after, gd⟩ (fun v => Is (pAt (blk v) 0)) (fun v => L ++ [ownP (blk v) e ts]) := by
  intro a w G S hs ho htt K Q k
  obtain ⟨h1, h2⟩ := LitT.at zs ts ht
  have hrun : (execOp a.eval (⟨dst, .alloc e, ty, pos, after, gd⟩ : Oper)).run P w = .ok (.value (pAt w.heap.size 0)) (w.alloc (.cells z.cells e)) := by
    simp only [execOp]
    simp [Instr.alloc, run_zeroValue hz, newVar, newRow]
  obtain ⟨a1, a2, a3⟩ := fresh_own (e := e) (cs := z.cells) hs ho (by rw [← Array.length_toList, hc, h1]) (fun j T hj => by
    obtain ⟨u, b1, b2, b3⟩ := h2 j T hj
    exact ⟨u, by rw [← hc] at b1; simpa using b1, T.mono (fun _ _ _ h => by cases h) b2, b3⟩)
  simp only [Oper.wp, hrun, Oper.upon_value]
  exact k (pAt w.heap.size 0) _ G _ a1 a2 a3 rfl
theorem op_box {x : Operand} {T : Ty} {e : TypeId} {ts : List Ty} (hx : Opd E x = some T) (hc : CellsOf T ts) :
    OpC P L E ⟨dst, .box e x, ty, pos, after, gd⟩ (fun v => Is (pAt (blk v) 0)) (fun v => L ++ [ownP (blk v) e ts]) := by
  intro a w G S hs ho htt K Q k
  have h1 : T.p G (a.eval x) := htt x (by simp [Op.operands]) _ hx
  obtain ⟨h2, h3⟩ := hc G _ h1
  have hrun : (execOp a.eval (⟨dst, .box e x, ty, pos, after, gd⟩ : Oper)).run P w = .ok (.value (pAt w.heap.size 0)) (w.alloc (.cells (a.eval x).cells e)) := by
    simp only [execOp]
    simp [Instr.box, newVar, newRow]
  obtain ⟨a1, a2, a3⟩ := fresh_own (e := e) (cs := (a.eval x).cells) (ts := ts) hs ho (by simpa using h2) (fun j T' hj => by
    have hjl := (List.getElem?_eq_some_iff.1 hj).1
    obtain ⟨u, hu⟩ : ∃ u, (a.eval x).cells.toList[j]? = some u := ⟨_, List.getElem?_eq_getElem (by omega)⟩
    exact ⟨u, by simpa using hu, h3 j T' u hj hu⟩)
  simp only [Oper.wp, hrun, Oper.upon_value]
  exact k (pAt w.heap.size 0) _ G _ a1 a2 a3 rfl
/-- A variable that nobody writes. -/
theorem op_boxC {x : Operand} {T : Ty} {e : TypeId} {ts : List Ty} (hx : Opd E x = some T) (hc : CellsOf T ts) : OpP P L E ⟨dst, .box e x, ty, pos, after, gd⟩ (TPc ts) :=
  OpP.laid fun a w G S hs ho htt => by
    have h1 : T.p G (a.eval x) := htt x (by simp [Op.operands]) _ hx
    obtain ⟨h2, h3⟩ := hc G _ h1
    have hext := Ext.new hs (a.eval x).cells.toList (.cells (a.eval x).cells e (0, 0)) (fun j v hj => by
      have e1 : (w.alloc (.cells (a.eval x).cells e (0, 0))).heap[w.heap.size]? = some (.cells (a.eval x).cells e (0, 0)) := heap_new w _
      simp only [World.cell?, e1]
      simpa using hj) (w.alloc (.cells (a.eval x).cells e (0, 0))) rfl rfl rfl rfl
    refine ⟨pAt w.heap.size 0, _, _, ?_, hext, w.heap.size, 0, rfl, ?_⟩
    · simp only [execOp]
      simp [Instr.box, newVar, newRow]
    · intro j U hj
      have hjl := (List.getElem?_eq_some_iff.1 hj).1
      obtain ⟨u, hu⟩ : ∃ u, (a.eval x).cells.toList[j]? = some u := ⟨_, List.getElem?_eq_getElem (by omega)⟩
      obtain ⟨b1, b2⟩ := h3 j U u hj hu
      exact ⟨u, by unfold Imm.add; rw [if_pos rfl, Nat.zero_add]; exact hu, U.mono hext.le b1, b2⟩
end
end Go.Vk
set_option linter.unusedVariables false
namespace Go.Vk

/-! ### weaker resources -/
def RSub (R R' : Res) : Prop := ∀ S G w, R.p S G w → R'.p S G w
theorem RSub.refl (R : Res) : RSub R R := fun _ _ _ h => h
def LSub : List Res → List Res → Prop
  | [], [] => True
  | R :: A, R' :: B => RSub R R' ∧ LSub A B
  | _, _ => False
theorem LSub.nil : LSub [] [] := trivial
theorem LSub.cons {R R' : Res} {A B : List Res} (h : RSub R R') (k : LSub A B) : LSub (R :: A) (R' :: B) := ⟨h, k⟩
theorem LSub.refl : ∀ L, LSub L L
  | [] => trivial
  | R :: L => ⟨RSub.refl R, LSub.refl L⟩
theorem LSub.get : ∀ {A B : List Res}, LSub A B → A.length = B.length ∧ ∀ (i : Nat) (R' : Res), B[i]? = some R' → ∃ R, A[i]? = some R ∧ RSub R R'
  | [], [], _ => ⟨rfl, fun i R h => by simp at h⟩
  | R :: A, R' :: B, ⟨h, k⟩ => by
    obtain ⟨h1, h2⟩ := LSub.get k
    refine ⟨by simp [h1], fun i R'' hi => ?_⟩
    cases i with
    | zero => simp at hi; subst hi; exact ⟨R, rfl, h⟩
    | succ i => simpa using h2 i R'' (by simpa using hi)
  | [], _ :: _, h => h.elim
  | _ :: _, [], h => h.elim
theorem Owns.sub {S : Nat → Nat → Prop} {A B : List Res} {G : Imm} {w : World} (h : Owns S A G w) (k : LSub A B) : Owns S B G w := by
  obtain ⟨h1, h2⟩ := LSub.get k
  refine ⟨h.bound, h.disj, fun i b hb => by rw [← h1]; exact h.inL i b hb, fun i R' hi => ?_⟩
  obtain ⟨R, h3, h4⟩ := h2 i R' hi
  exact h4 _ _ _ (h.res i R h3)
def TsSub : List Ty → List Ty → Prop
  | [], [] => True
  | T :: A, U :: B => Sub T U ∧ TsSub A B
  | _, _ => False
theorem TsSub.nil : TsSub [] [] := trivial
theorem TsSub.cons {T U : Ty} {A B : List Ty} (h : Sub T U) (k : TsSub A B) : TsSub (T :: A) (U :: B) := ⟨h, k⟩
theorem TsSub.get : ∀ {A B : List Ty}, TsSub A B → A.length = B.length ∧ ∀ (i : Nat) (U : Ty), B[i]? = some U → ∃ T, A[i]? = some T ∧ Sub T U
  | [], [], _ => ⟨rfl, fun i R h => by simp at h⟩
  | R :: A, R' :: B, ⟨h, k⟩ => by
    obtain ⟨h1, h2⟩ := TsSub.get k
    refine ⟨by simp [h1], fun i R'' hi => ?_⟩
    cases i with
    | zero => simp at hi; subst hi; exact ⟨R, rfl, h⟩
    | succ i => simpa using h2 i R'' (by simpa using hi)
  | [], _ :: _, h => h.elim
  | _ :: _, [], h => h.elim
theorem RSub.own {g : Nat} {e : TypeId} {A B : List Ty} (h : TsSub A B) : RSub (ownP g e A) (ownP g e B) := by
  rintro S G w ⟨h1, ⟨cs, h2, h3, h4⟩, h5⟩
  obtain ⟨k1, k2⟩ := TsSub.get h
  refine ⟨h1, ⟨cs, h2, by omega, fun j U hj => ?_⟩, h5⟩
  obtain ⟨T, e1, e2⟩ := k2 j U hj
  obtain ⟨u, a, b, c⟩ := h4 j T e1
  exact ⟨u, a, e2 _ _ b, c⟩

/-! ### some of the resources -/
/-- The resources at some places, each as it is wanted. -/
def PickL (L : List Res) : List Nat → List Res → Prop
  | [], [] => True
  | i :: is, R' :: B => (∃ R, L[i]? = some R ∧ RSub R R') ∧ PickL L is B
  | _, _ => False
theorem PickL.nil {L : List Res} : PickL L [] [] := trivial
theorem PickL.cons {L : List Res} {is : List Nat} {B : List Res} (i : Nat) {R R' : Res} (h : L[i]? = some R) (hs : RSub R R') (k : PickL L is B) : PickL L (i :: is) (R' :: B) := ⟨⟨R, h, hs⟩, k⟩
theorem PickL.at {L : List Res} : ∀ {is : List Nat} {B : List Res}, PickL L is B → is.length = B.length ∧ ∀ (k : Nat) (R' : Res), B[k]? = some R' → ∃ i R, is[k]? = some i ∧ L[i]? = some R ∧ RSub R R'
  | [], [], _ => ⟨rfl, fun i R h => by simp at h⟩
  | i :: is, R' :: B, ⟨⟨R, h, hs⟩, k⟩ => by
    obtain ⟨h1, h2⟩ := PickL.at k
    refine ⟨by simp [h1], fun j R'' hj => ?_⟩
    cases j with
    | zero => simp at hj; subst hj; exact ⟨i, R, rfl, h, hs⟩
    | succ j => simpa using h2 j R'' (by simpa using hj)
  | [], _ :: _, h => h.elim
  | _ :: _, [], h => h.elim
def distinct : List Nat → Bool
  | [] => true
  | i :: is => !(is.any (Nat.beq i)) && distinct is
theorem distinct.inj : ∀ {is : List Nat}, distinct is = true → ∀ (j k i : Nat), is[j]? = some i → is[k]? = some i → j = k
  | [], _, j, k, i, h, _ => by simp at h
  | a :: is, h, j, k, i, hj, hk => by
    simp only [distinct, Bool.and_eq_true, Bool.not_eq_true', List.any_eq_false] at h
    have hno : ∀ x ∈ is, a ≠ x := fun x hx e => h.1 x hx (by rw [e]; simp)
    cases j with
    | zero =>
      cases k with
      | zero => rfl
      | succ k => simp at hj hk; subst hj; exact absurd rfl (hno _ (List.mem_of_getElem? hk))
    | succ j =>
      cases k with
      | zero => simp at hj hk; subst hk; exact absurd rfl (hno _ (List.mem_of_getElem? hj))
      | succ k => rw [distinct.inj h.2 j k i (by simpa using hj) (by simpa using hk)]
theorem Owns.pick {S : Nat → Nat → Prop} {L B : List Res} {is : List Nat} {G : Imm} {w : World} (h : Owns S L G w) (hd : distinct is = true) (hp : PickL L is B) : Owns (fun k b => ∃ i : Nat, is[k]? = some i ∧ S i b) B G w := by
  obtain ⟨h1, h2⟩ := PickL.at hp
  refine ⟨fun k b ⟨i, _, hb⟩ => h.bound i b hb, ?_, ?_, ?_⟩
  · rintro j k b ⟨i, hi, hb⟩ ⟨i', hi', hb'⟩
    have := h.disj _ _ b hb hb'
    subst this
    exact distinct.inj hd j k i hi hi'
  · rintro k b ⟨i, hi, _⟩
    have := (List.getElem?_eq_some_iff.1 hi).1
    omega
  · intro k R' hk
    obtain ⟨i, R, h3, h4, h5⟩ := h2 k R' hk
    refine h5 _ _ _ (R.loc (h.res i R h4) (Imm.le.refl G) (fun b _ => ⟨rfl, fun _ => rfl⟩) |> fun hr => ?_)
    have : (fun b => ∃ i, is[k]? = some i ∧ S i b) = S i := by
      funext b
      apply propext
      constructor
      · rintro ⟨i', hi', hb⟩
        rw [h3] at hi'; cases hi'; exact hb
      · intro hb; exact ⟨i, h3, hb⟩
    rw [this]; exact hr

/-- Out of the resources at some places one resource is made. -/
def Pk (L : List Res) (js : List Nat) (R' : Res) : Prop := distinct js = true → ∀ S G w, Owns S L G w → R'.p (fun b => ∃ i, i ∈ js ∧ S i b) G w
def PickX (L : List Res) : List (List Nat) → List Res → Prop
  | [], [] => True
  | js :: iss, R' :: B => Pk L js R' ∧ PickX L iss B
  | _, _ => False
theorem one_place {S : Nat → Nat → Prop} (i : Nat) : (fun b => ∃ j, j ∈ [i] ∧ S j b) = S i := by
  funext b; apply propext
  constructor
  · rintro ⟨j, hj, h⟩; simp at hj; subst hj; exact h
  · intro h; exact ⟨i, by simp, h⟩
theorem PickX.nil {L : List Res} : PickX L [] [] := trivial
theorem PickX.own {L : List Res} {iss : List (List Nat)} {B : List Res} {g : Nat} {e : TypeId} {ts ts' : List Ty} (i : Nat) (h : L[i]? = some (ownP g e ts)) (hs : TsSub ts ts') (k : PickX L iss B) : PickX L ([i] :: iss) (ownP g e ts' :: B) :=
  ⟨fun _ S G w ho => by rw [one_place]; exact RSub.own hs _ _ _ (ho.res i _ h), k⟩
theorem PickX.any {L : List Res} {iss : List (List Nat)} {B : List Res} {R : Res} (i : Nat) (h : L[i]? = some R) (k : PickX L iss B) : PickX L ([i] :: iss) (R :: B) :=
  ⟨fun _ S G w ho => by rw [one_place]; exact ho.res i _ h, k⟩
theorem PickX.sl {L : List Res} {iss : List (List Nat)} {B : List Res} {v : Value} {sz : Nat} {e : TypeId} (i : Nat) (h : L[i]? = some (ownSl v sz e)) (k : PickX L iss B) : PickX L ([i] :: iss) (ownSl v sz e :: B) := .any i h k
theorem PickX.nilS {L : List Res} {iss : List (List Nat)} {B : List Res} {sz : Nat} {e : TypeId} (k : PickX L iss B) : PickX L ([] :: iss) (ownSl (.slice Option.none 0 0) sz e :: B) :=
  ⟨fun _ S G w ho => .inl ⟨rfl, fun b ⟨j, hj, _⟩ => by simp at hj⟩, k⟩
theorem distinct.append_left : ∀ {a b : List Nat}, distinct (a ++ b) = true → distinct a = true
  | [], _, _ => rfl
  | x :: a, b, h => by
    simp only [List.cons_append, distinct, Bool.and_eq_true, Bool.not_eq_true', List.any_append, Bool.or_eq_false_iff] at h ⊢
    exact ⟨h.1.1, distinct.append_left h.2⟩
theorem distinct.append_right : ∀ {a b : List Nat}, distinct (a ++ b) = true → distinct b = true
  | [], _, h => h
  | x :: a, b, h => by
    simp only [List.cons_append, distinct, Bool.and_eq_true] at h
    exact distinct.append_right h.2
theorem distinct.apart : ∀ {a b : List Nat}, distinct (a ++ b) = true → ∀ i, i ∈ a → i ∉ b
  | [], _, _, i, h => by simp at h
  | x :: a, b, h, i, hi => by
    simp only [List.cons_append, distinct, Bool.and_eq_true, Bool.not_eq_true', List.any_append, Bool.or_eq_false_iff, List.any_eq_false] at h
    rcases List.mem_cons.1 hi with e | e
    · intro hb; subst e; exact h.1.2 i hb (by simp)
    · exact distinct.apart h.2 i e
theorem PickX.len {L : List Res} : ∀ {iss : List (List Nat)} {B : List Res}, PickX L iss B → iss.length = B.length
  | [], [], _ => rfl
  | _ :: iss, _ :: B, ⟨_, k⟩ => by simp [PickX.len k]
  | [], _ :: _, h => h.elim
  | _ :: _, [], h => h.elim
theorem PickX.at {L : List Res} : ∀ {iss : List (List Nat)} {B : List Res}, PickX L iss B → ∀ (k : Nat) (R' : Res), B[k]? = some R' → ∃ js, iss[k]? = some js ∧ Pk L js R'
  | [], [], _, k, R', h => by simp at h
  | js :: iss, R :: B, ⟨h, hk⟩, k, R', e => by
    cases k with
    | zero => simp at e; subst e; exact ⟨js, rfl, h⟩
    | succ k => simpa using PickX.at hk k R' (by simpa using e)
  | [], _ :: _, h, _, _, _ => h.elim
  | _ :: _, [], h, _, _, _ => h.elim
theorem distinct.flat : ∀ {iss : List (List Nat)}, distinct iss.flatten = true → (∀ (k : Nat) js, iss[k]? = some js → distinct js = true) ∧ ∀ (j k : Nat) js ks i, iss[j]? = some js → iss[k]? = some ks → i ∈ js → i ∈ ks → j = k
  | [], _ => ⟨fun k js h => by simp at h, fun j k js ks i h => by simp at h⟩
  | a :: iss, h => by
    rw [List.flatten_cons] at h
    obtain ⟨h1, h2⟩ := distinct.flat (distinct.append_right h)
    have hmem : ∀ (k : Nat) ks i, iss[k]? = some ks → i ∈ ks → i ∈ iss.flatten := fun k ks i hk hi => List.mem_flatten.2 ⟨ks, List.mem_of_getElem? hk, hi⟩
    refine ⟨fun k js hk => ?_, fun j k js ks i hj hk hi hi' => ?_⟩
    · cases k with
      | zero => simp at hk; subst hk; exact distinct.append_left h
      | succ k => exact h1 k js (by simpa using hk)
    · cases j with
      | zero =>
        cases k with
        | zero => rfl
        | succ k => simp at hj; subst hj; exact absurd (hmem k ks i (by simpa using hk) hi') (distinct.apart h i hi)
      | succ j =>
        cases k with
        | zero => simp at hk; subst hk; exact absurd (hmem j js i (by simpa using hj) hi) (distinct.apart h i hi')
        | succ k => rw [h2 j k js ks i (by simpa using hj) (by simpa using hk) hi hi']
theorem Owns.pickX {S : Nat → Nat → Prop} {L B : List Res} {iss : List (List Nat)} {G : Imm} {w : World} (h : Owns S L G w) (hd : distinct iss.flatten = true) (hp : PickX L iss B) : Owns (fun k b => ∃ js, iss[k]? = some js ∧ ∃ i, i ∈ js ∧ S i b) B G w := by
  obtain ⟨hd1, hd2⟩ := distinct.flat hd
  refine ⟨fun k b ⟨_, _, i, _, hb⟩ => h.bound i b hb, ?_, ?_, ?_⟩
  · rintro j k b ⟨js, hj, i, hi, hb⟩ ⟨ks, hk, i', hi', hb'⟩
    have := h.disj _ _ b hb hb'
    subst this
    exact hd2 j k js ks i hj hk hi hi'
  · rintro k b ⟨js, hk, _⟩
    have := (List.getElem?_eq_some_iff.1 hk).1
    have := hp.len
    omega
  · intro k R' hk
    obtain ⟨js, h1, h2⟩ := hp.at k R' hk
    have : (fun b => ∃ js, iss[k]? = some js ∧ ∃ i, i ∈ js ∧ S i b) = (fun b => ∃ i, i ∈ js ∧ S i b) := by
      funext b; apply propext
      constructor
      · rintro ⟨js', hj, hb⟩; rw [h1] at hj; cases hj; exact hb
      · intro hb; exact ⟨js, h1, hb⟩
    rw [this]
    exact h2 (hd1 k js h1) S G w h

/-- Several resources as one; what they are in particular is hidden. -/
def packR {σ : Type} (Rs : σ → List Res) : Res where
  p S G w := ∃ (s : σ) (Sc : Nat → Nat → Prop), (∀ b, S b ↔ ∃ i, Sc i b) ∧ (∀ i j b, Sc i b → Sc j b → i = j) ∧ (∀ i b, Sc i b → i < (Rs s).length) ∧ ∀ (i : Nat) (r : Res), (Rs s)[i]? = some r → r.p (Sc i) G w
  loc := by
    rintro S G w G' w' ⟨s, Sc, h1, h2, h3, h4⟩ hle hb
    exact ⟨s, Sc, h1, h2, h3, fun i r hr => r.loc (h4 i r hr) hle (fun b hs => hb b ((h1 b).2 ⟨i, hs⟩))⟩
theorem PickX.pack {σ : Type} {Rs : σ → List Res} {L : List Res} {iss' iss : List (List Nat)} {B : List Res} {s : σ} (hp : PickX L iss' (Rs s)) (k : PickX L iss B) : PickX L (iss'.flatten :: iss) (packR Rs :: B) :=
  ⟨fun hd S G w ho => by
    have h := ho.pickX hd hp
    refine ⟨s, _, fun b => ?_, h.disj, h.inL, h.res⟩
    constructor
    · rintro ⟨i, hi, hb⟩
      obtain ⟨js, hj, hij⟩ := List.mem_flatten.1 hi
      obtain ⟨k, hk, e⟩ := List.getElem_of_mem hj
      exact ⟨k, js, by rw [List.getElem?_eq_getElem hk, e], i, hij, hb⟩
    · rintro ⟨k, js, hk, i, hi, hb⟩
      exact ⟨i, List.mem_flatten.2 ⟨js, List.mem_of_getElem? hk, hi⟩, hb⟩, k⟩
theorem Owns.unpack {σ : Type} {Rs : σ → List Res} {S : Nat → Nat → Prop} {L : List Res} {i : Nat} {G : Imm} {w : World} (h : Owns S L G w) (hL : L[i]? = some (packR Rs)) : ∃ s S', Owns S' (L.set i empR ++ Rs s) G w ∧ ∀ k b, S' k b → ∃ j, S j b := by
  obtain ⟨s, Sc, h1, h2, h3, h4⟩ := h.res i _ hL
  refine ⟨s, fun j b => if j < L.length then (j ≠ i ∧ S j b) else Sc (j - L.length) b, ⟨?_, ?_, ?_, ?_⟩, ?_⟩
  · intro j b hb
    split at hb
    · exact h.bound j b hb.2
    · exact h.bound i b ((h1 b).2 ⟨_, hb⟩)
  · intro j k b hb hb'
    split at hb <;> split at hb'
    · exact h.disj _ _ b hb.2 hb'.2
    · exact absurd (h.disj _ _ b hb.2 ((h1 b).2 ⟨_, hb'⟩)) hb.1
    · exact absurd (h.disj _ _ b hb'.2 ((h1 b).2 ⟨_, hb⟩)) hb'.1
    · have := h2 _ _ b hb hb'; omega
  · intro j b hb
    split at hb
    · simp; omega
    · have := h3 _ b hb; simp; omega
  · intro j r hr
    by_cases hj : j < L.length
    · rw [List.getElem?_append_left (by simpa using hj), List.getElem?_set] at hr
      by_cases hij : i = j
      · subst hij
        rw [if_pos rfl, if_pos hj] at hr
        cases hr
        trivial
      · rw [if_neg hij] at hr
        have : (fun b => if j < L.length then (j ≠ i ∧ S j b) else Sc (j - L.length) b) = S j := by
          funext b; rw [if_pos hj]; exact propext ⟨fun x => x.2, fun x => ⟨fun e => hij e.symm, x⟩⟩
        rw [this]; exact h.res j r hr
    · rw [List.getElem?_append_right (by simp; omega)] at hr
      simp only [List.length_set] at hr
      have : (fun b => if j < L.length then (j ≠ i ∧ S j b) else Sc (j - L.length) b) = Sc (j - L.length) := by
        funext b; rw [if_neg hj]
      rw [this]; exact h4 _ r hr
  · intro k b hb
    split at hb
    · exact ⟨k, hb.2⟩
    · exact ⟨i, (h1 b).2 ⟨_, hb⟩⟩

/-- The resources behind a call: those that were handed on as it hands them back, and new ones. -/
def updL : List Res → List Nat → List Res → List Res
  | L, i :: is, R :: Rs => updL (L.set i R) is Rs
  | L, [], Rs => L ++ Rs
  | L, _ :: _, [] => L
theorem updL.length : ∀ (is : List Nat) (L Rs : List Res), is.length ≤ Rs.length → (updL L is Rs).length = L.length + (Rs.length - is.length)
  | [], L, Rs, _ => by simp [updL]
  | i :: is, L, [], h => by simp at h
  | i :: is, L, R :: Rs, h => by
    rw [updL, updL.length is (L.set i R) Rs (by simpa using h)]
    simp
theorem updL.get : ∀ (is : List Nat) (L Rs : List Res), is.length ≤ Rs.length → distinct is = true → (∀ i ∈ is, i < L.length) → ∀ (j : Nat) (R : Res), (updL L is Rs)[j]? = some R →
    (∃ k : Nat, is[k]? = some j ∧ Rs[k]? = some R) ∨ (j ∉ is ∧ j < L.length ∧ L[j]? = some R) ∨ (L.length ≤ j ∧ Rs[is.length + (j - L.length)]? = some R)
  | [], L, Rs, _, _, _, j, R, h => by
    rw [updL, List.getElem?_append] at h
    split at h
    · rename_i hlt; exact .inr (.inl ⟨by simp, hlt, h⟩)
    · rename_i hlt; exact .inr (.inr ⟨by omega, by simpa using h⟩)
  | i :: is, L, [], h, _, _, _, _, _ => by simp at h
  | i :: is, L, R0 :: Rs, h, hd, hlt, j, R, hj => by
    rw [updL] at hj
    have hd' : distinct is = true := by simp only [distinct, Bool.and_eq_true] at hd; exact hd.2
    have hni : i ∉ is := by
      simp only [distinct, Bool.and_eq_true, Bool.not_eq_true', List.any_eq_false] at hd
      intro hm
      exact hd.1 i hm (by simp)
    have hil : i < L.length := hlt i (by simp)
    rcases updL.get is (L.set i R0) Rs (by simpa using h) hd' (fun k hk => by simpa using hlt k (by simp [hk])) j R hj with ⟨k, h1, h2⟩ | ⟨h1, h2, h3⟩ | ⟨h1, h2⟩
    · exact .inl ⟨k + 1, by simpa using h1, by simpa using h2⟩
    · rw [List.getElem?_set] at h3
      by_cases hij : i = j
      · subst hij
        rw [if_pos rfl, if_pos hil] at h3
        exact .inl ⟨0, rfl, h3⟩
      · rw [if_neg hij] at h3
        refine .inr (.inl ⟨?_, by simpa using h2, h3⟩)
        intro hm
        rcases List.mem_cons.1 hm with e | e
        · exact hij e.symm
        · exact h1 e
    · refine .inr (.inr ⟨by simpa using h1, ?_⟩)
      simp only [List.length_set] at h2
      rw [← h2, show (i :: is).length + (j - L.length) = (is.length + (j - L.length)) + 1 from by simp; omega]
      simp
theorem Owns.upd {S Sc : Nat → Nat → Prop} {L B : List Res} {is : List Nat} {G G' : Imm} {w w' : World} (h : Owns S L G w) (hd : distinct is = true) (hp : PickL L is B) {Z : Nat → Prop} (hz : ∀ b, Z b → ∃ (k i : Nat), is[k]? = some i ∧ S i b) (k : Ext Z G w G' w') {Rs : List Res} (hRs : is.length ≤ Rs.length)
    (hc : Owns Sc Rs G' w') (hcs : ∀ i b, Sc i b → w.heap.size ≤ b ∨ ∃ (k i : Nat), is[k]? = some i ∧ S i b) :
    ∃ S', Owns S' (updL L is Rs) G' w' ∧ ∀ i b, S' i b → w.heap.size ≤ b ∨ ∃ j, S j b := by
  obtain ⟨hp1, hp2⟩ := PickL.at hp
  have hmem : ∀ i ∈ is, i < L.length := by
    intro i hi
    obtain ⟨k, hk, e⟩ := List.getElem_of_mem hi
    obtain ⟨i', R, h3, h4, _⟩ := hp2 k (B[k]'(by omega)) (List.getElem?_eq_getElem (by omega))
    rw [List.getElem?_eq_getElem hk, e] at h3
    cases h3
    exact (List.getElem?_eq_some_iff.1 h4).1
  -- who holds what: a place that was handed on, one that was not, a new one
  let S' : Nat → Nat → Prop := fun j b => (∃ k, is[k]? = some j ∧ Sc k b) ∨ (j ∉ is ∧ j < L.length ∧ S j b) ∨ (L.length ≤ j ∧ Sc (is.length + (j - L.length)) b)
  have hnew : ∀ i b, Sc i b → ∀ j, j ∉ is → ¬ S j b := by
    intro i b hb j hj hs
    rcases hcs i b hb with h1 | ⟨k, i', hk, hb'⟩
    · have := h.bound j b hs; omega
    · have := h.disj _ _ b hs hb'
      subst this
      exact hj (List.mem_of_getElem? hk)
  refine ⟨S', ⟨?_, ?_, ?_, ?_⟩, ?_⟩
  · rintro j b (⟨k, _, hb⟩ | ⟨_, _, hb⟩ | ⟨_, hb⟩)
    · exact hc.bound _ b hb
    · exact Nat.lt_of_lt_of_le (h.bound j b hb) k.size
    · exact hc.bound _ b hb
  · rintro j j' b (⟨k1, hk1, hb⟩ | ⟨hn, hl, hb⟩ | ⟨hl, hb⟩) (⟨k2, hk2, hb'⟩ | ⟨hn', hl', hb'⟩ | ⟨hl', hb'⟩)
    · have := hc.disj _ _ b hb hb'
      subst this
      rw [hk1] at hk2; cases hk2; rfl
    · exact absurd hb' (hnew _ b hb j' hn')
    · have h1 := hc.disj _ _ b hb hb'
      have := (List.getElem?_eq_some_iff.1 hk1).1
      omega
    · exact absurd hb (hnew _ b hb' j hn)
    · exact h.disj _ _ b hb hb'
    · exact absurd hb (hnew _ b hb' j hn)
    · have h1 := hc.disj _ _ b hb hb'
      have := (List.getElem?_eq_some_iff.1 hk2).1
      omega
    · exact absurd hb' (hnew _ b hb j' hn')
    · have := hc.disj _ _ b hb hb'
      omega
  · rintro j b (⟨k1, hk1, hb⟩ | ⟨hn, hl, hb⟩ | ⟨hl, hb⟩)
    · rw [updL.length _ _ _ hRs]
      have := hmem j (List.mem_of_getElem? hk1)
      omega
    · rw [updL.length _ _ _ hRs]; omega
    · rw [updL.length _ _ _ hRs]
      have := hc.inL _ b hb
      omega
  · intro j R hj
    rcases updL.get is L Rs hRs hd hmem j R hj with ⟨k1, h1, h2⟩ | ⟨h1, h2, h3⟩ | ⟨h1, h2⟩
    · have hr := hc.res k1 R h2
      have : S' j = Sc k1 := by
        funext b
        apply propext
        constructor
        · rintro (⟨k2, hk2, hb⟩ | ⟨hn, _, _⟩ | ⟨hl, _⟩)
          · rw [distinct.inj hd k1 k2 j h1 hk2]; exact hb
          · exact absurd (List.mem_of_getElem? h1) hn
          · have := hmem j (List.mem_of_getElem? h1); omega
        · intro hb; exact .inl ⟨k1, h1, hb⟩
      rw [this]; exact hr
    · have hr := R.loc (h.res j R h3) k.le (fun b hb => k.blk b (h.bound j b hb) (fun hzb => by
        obtain ⟨k1, i, hi, hb'⟩ := hz b hzb
        have := h.disj _ _ b hb hb'
        subst this
        exact h1 (List.mem_of_getElem? hi)))
      have : S' j = S j := by
        funext b
        apply propext
        constructor
        · rintro (⟨k2, hk2, hb⟩ | ⟨_, _, hb⟩ | ⟨hl, _⟩)
          · exact absurd (List.mem_of_getElem? hk2) h1
          · exact hb
          · omega
        · intro hb; exact .inr (.inl ⟨h1, h2, hb⟩)
      rw [this]; exact hr
    · have hr := hc.res _ R h2
      have : S' j = Sc (is.length + (j - L.length)) := by
        funext b
        apply propext
        constructor
        · rintro (⟨k2, hk2, hb⟩ | ⟨_, hl, _⟩ | ⟨_, hb⟩)
          · have := hmem j (List.mem_of_getElem? hk2); omega
          · omega
          · exact hb
        · intro hb; exact .inr (.inr ⟨h1, hb⟩)
      rw [this]; exact hr
  · rintro j b (⟨k1, hk1, hb⟩ | ⟨hn, hl, hb⟩ | ⟨hl, hb⟩)
    · rcases hcs _ b hb with h1 | ⟨k2, i, _, h1⟩
      · exact .inl h1
      · exact .inr ⟨i, h1⟩
    · exact .inr ⟨j, hb⟩
    · rcases hcs _ b hb with h1 | ⟨k2, i, _, h1⟩
      · exact .inl h1
      · exact .inr ⟨i, h1⟩

section
variable {P : Program} {L : List Res} {E : Env} {dst : Option Tmp} {ty : TypeId} {pos : String} {after : Array Edge} {gd : Option (Nat × Bool)}
theorem op_callR {f : FuncId} {A : List Ty} {Li : List Res} {T : Value → Ty} {Lo : Value → List Res} {xs : List Operand} {tys : Array TypeId} {is : List Nat} (hf : CallsC P f A Li T Lo) (hx : OpdsS E xs A) (hp : PickL L is Li) (hd : distinct is = true) (hl : ∀ v, is.length ≤ (Lo v).length) :
    OpC P L E ⟨dst, .call { callee := .value (.func f), args := xs.toArray, argTypes := tys }, ty, pos, after, gd⟩ T (fun v => updL L is (Lo v)) := by
  intro a w G S hs ho ht K Q k
  simp only [Oper.wp, run_call_func w hf.enter, Oper.upon_enter]
  refine (hf.calls _ w G _ hs (ho.pick hd hp) (OpdsS.args xs A hx (fun x hx' => ht x (by simp [Op.operands, Call.operands, hx'])))).mono ?_
  rintro e w' ⟨v, G', Sc, rfl, hext, hc, hcs, hT⟩
  obtain ⟨S', h1, h2⟩ := ho.upd hd hp (Z := fun b => ∃ i, ∃ i', is[i]? = some i' ∧ S i' b) (fun b ⟨k, i, h⟩ => ⟨k, i, h⟩) hext (hl v) hc (fun i b hb => (hcs i b hb).imp id (fun ⟨k, i, h⟩ => ⟨k, i, h⟩))
  exact k v w' G' S' ⟨hext.sat, hext.le, hext.os, hext.tape, hext.output, hext.size, fun b hb hz => hext.blk b hb (fun ⟨k, i, _, h⟩ => hz ⟨i, h⟩)⟩ h1 h2 hT
end
end Go.Vk
set_option linter.unusedVariables false
namespace Go.Vk

/-- What the results are. -/
def ResR (P : Program) (L : List Res) (E : Env) : List ResultVar → List Ty → Prop
  | [], [] => True
  | .tmp t :: rs, U :: Us => E.get t = some U ∧ ResR P L E rs Us
  | .cell a t :: rs, U :: Us => (∃ (g : Nat) (e : TypeId) (ts : List Ty) (i : Nat), E.get a = some (Is (pAt g 0)) ∧ L[i]? = some (ownP g e ts) ∧ ((aggB P t = some true ∧ (P.info? t).map (·.size) = some ts.length ∧ U = TAgg ts) ∨ (aggB P t = some false ∧ ts[0]? = some U))) ∧ ResR P L E rs Us
  | _, _ => False
section
variable {P : Program} {L : List Res} {E : Env}
theorem ResR.nil : ResR P L E [] [] := trivial
theorem ResR.tmp {t : Tmp} {rs : List ResultVar} {U : Ty} {Us : List Ty} (h : E.get t = some U) (k : ResR P L E rs Us) : ResR P L E (.tmp t :: rs) (U :: Us) := ⟨h, k⟩
theorem ResR.cellA {a : Tmp} {t : TypeId} {rs : List ResultVar} {g : Nat} {e : TypeId} {ts : List Ty} {Us : List Ty} (i : Nat) (h : E.get a = some (Is (pAt g 0))) (hL : L[i]? = some (ownP g e ts)) (hag : aggB P t = some true) (hsz : (P.info? t).map (·.size) = some ts.length) (k : ResR P L E rs Us) : ResR P L E (.cell a t :: rs) (TAgg ts :: Us) := ⟨⟨g, e, ts, i, h, hL, .inl ⟨hag, hsz, rfl⟩⟩, k⟩
theorem ResR.cell1 {a : Tmp} {t : TypeId} {rs : List ResultVar} {g : Nat} {e : TypeId} {ts : List Ty} {U : Ty} {Us : List Ty} (i : Nat) (h : E.get a = some (Is (pAt g 0))) (hL : L[i]? = some (ownP g e ts)) (hag : aggB P t = some false) (hT : ts[0]? = some U) (k : ResR P L E rs Us) : ResR P L E (.cell a t :: rs) (U :: Us) := ⟨⟨g, e, ts, i, h, hL, .inr ⟨hag, hT⟩⟩, k⟩
def retTy : List Ty → Ty
  | [U] => U
  | Us => TTup Us

theorem run_cellA {g : Nat} {e : TypeId} {ts : List Ty} {i : Nat} {t : TypeId} {S : Nat → Nat → Prop} {G : Imm} {w : World} (ho : Owns S L G w) (hL : L[i]? = some (ownP g e ts)) (hag : aggB P t = some true) (hsz : (P.info? t).map (·.size) = some ts.length) : ∃ v, (loadVar t ⟨g, 0, none⟩).run P w = .ok v w ∧ (TAgg ts).p G v := by
  obtain ⟨_, ⟨cs, h2, h3, h4⟩, _⟩ := ownP.at ho hL
  refine ⟨.agg cs.toList.toArray, ?_, cs.toList, rfl, by simpa using h3, fun j T u e1 e2 => ?_⟩
  · have hr := run_loadCells_row (P := P) w g 0 cs.toList (fun j u e => by simp [World.cell?, h2]; simpa using e)
    simp only [Array.length_toList, h3] at hr
    simp [loadVar, run_isAgg hag, run_sizeOf hsz, hr]
  · obtain ⟨u', h5, h6, h7⟩ := h4 _ _ e1
    have : u' = u := by
      have e3 : cs[j]? = some u := by simpa using e2
      rw [h5] at e3; cases e3; rfl
    subst this; exact ⟨h6, h7⟩
theorem run_cell1 {g : Nat} {e : TypeId} {ts : List Ty} {i : Nat} {t : TypeId} {U : Ty} {S : Nat → Nat → Prop} {G : Imm} {w : World} (ho : Owns S L G w) (hL : L[i]? = some (ownP g e ts)) (hag : aggB P t = some false) (hT : ts[0]? = some U) : ∃ v, (loadVar t ⟨g, 0, none⟩).run P w = .ok v w ∧ U.p G v := by
  obtain ⟨_, ⟨cs, h2, h3, h4⟩, _⟩ := ownP.at ho hL
  obtain ⟨u, h5, h6, h7⟩ := h4 _ _ hT
  refine ⟨u, ?_, h6⟩
  have hcell : w.cell? ⟨g, 0, none⟩ = some u := by simp [World.cell?, h2, h5]
  simp [loadVar, run_isAgg hag, hcell]

theorem ResR.list {N : Nat} {a : Act} {S : Nat → Nat → Prop} {G : Imm} {w : World} (ht : Typed N E G a) (ho : Owns S L G w) (f : ResultVar → Sem Value) (hf1 : ∀ t, (f (.tmp t)).run P w = .ok (a.tmps.getD t undef) w) (hf2 : ∀ p t g, a.tmps.getD p undef = pAt g 0 → (f (.cell p t)).run P w = (loadVar t ⟨g, 0, Option.none⟩).run P w) : ∀ (rs : List ResultVar) (Us : List Ty), ResR P L E rs Us →
    ∃ vs : List Value, (List.mapM f rs).run P w = .ok vs w ∧ ArgsT G Us vs
  | [], [], _ => ⟨[], by simp, trivial⟩
  | .tmp t :: rs, U :: Us, ⟨h, k⟩ => by
    obtain ⟨vs, h1, h2⟩ := ResR.list ht ho f hf1 hf2 rs Us k
    exact ⟨a.tmps.getD t undef :: vs, by simp only [List.mapM_cons, Sem.run_bind, Sem.run_pure, Result.andThen_ok, h1, hf1], ht.get t U h, h2⟩
  | .cell p t :: rs, U :: Us, ⟨⟨g, e, ts, i, h, hL, hc⟩, k⟩ => by
    obtain ⟨vs, h1, h2⟩ := ResR.list ht ho f hf1 hf2 rs Us k
    have hp : a.tmps.getD p undef = pAt g 0 := ht.get p _ h
    have key : ∃ v, (loadVar t ⟨g, 0, Option.none⟩).run P w = .ok v w ∧ U.p G v := by
      rcases hc with ⟨c1, c2, rfl⟩ | ⟨c1, c2⟩
      · exact run_cellA ho hL c1 c2
      · exact run_cell1 ho hL c1 c2
    obtain ⟨v, h3, h4⟩ := key
    exact ⟨v :: vs, by simp only [List.mapM_cons, Sem.run_bind, Sem.run_pure, Result.andThen_ok, h1, hf2 p t g hp, h3], h4, h2⟩
theorem ArgsT.tup {G : Imm} {Us : List Ty} {vs : List Value} (h : ArgsT G Us vs) : (TTup Us).p G (.tuple vs.toArray) := by
  obtain ⟨h1, h2⟩ := ArgsT.get _ _ h
  exact ⟨vs, rfl, h1.symm, fun j T u e1 e2 => by obtain ⟨v, e3, e4⟩ := h2 j T e1; rw [e2] at e3; cases e3; exact e4⟩
theorem ResR.val {fn : Func} {N : Nat} {Us : List Ty} {a : Act} {S : Nat → Nat → Prop} {G : Imm} {w : World} (h : ResR P L E fn.results.toList Us) (ht : Typed N E G a) (ho : Owns S L G w) : ∃ v, (results fn a.tmps).run P w = .ok v w ∧ (retTy Us).p G v := by
  have gen : ∀ f : ResultVar → Sem Value, (∀ t, (f (.tmp t)).run P w = .ok (a.tmps.getD t undef) w) → (∀ p t g, a.tmps.getD p undef = pAt g 0 → (f (.cell p t)).run P w = (loadVar t ⟨g, 0, Option.none⟩).run P w) →
      ∃ v, ((((List.mapM f fn.results.toList).run P w).andThen fun a w' => Result.ok a.toArray w').andThen fun a w' => Sem.run P (pure (if h : a.size = 1 then a[0] else Value.tuple a)) w') = Result.ok v w ∧ (retTy Us).p G v := by
    intro f hf1 hf2
    obtain ⟨vs, h1, h2⟩ := ResR.list ht ho f hf1 hf2 _ _ h
    rw [h1]
    simp only [Result.andThen_ok]
    match Us, vs, h2 with
    | [], [], _ => exact ⟨_, rfl, ⟨[], rfl, rfl, fun j T u e => by simp at e⟩⟩
    | [U], [v], h2 => exact ⟨v, by simp, h2.1⟩
    | U :: U' :: Us, v :: v' :: vs, h2 => exact ⟨.tuple (v :: v' :: vs).toArray, by simp, ArgsT.tup h2⟩
    | [], _ :: _, h2 => exact h2.elim
    | _ :: _, [], h2 => exact h2.elim
    | [_], _ :: _ :: _, h2 => exact h2.2.elim
    | _ :: _ :: _, [_], h2 => exact h2.2.elim
  have hr : fn.results = fn.results.toList.toArray := by simp
  unfold results
  rw [hr]
  simp only [List.mapM_toArray, Sem.run_bind, Sem.run_map]
  exact gen _ (fun t => by simp only [Sem.run_pure]) (fun p t g hp => by simp only [hp, asAddr, Sem.run_bind, Sem.run_pure, Result.andThen_ok])
end
section
variable {P : Program} {L : List Res} {E : Env} {fn : Func} {w0 : World} {G0 : Imm} {S0 : Nat → Nat → Prop} {N : Nat}
/-- A function is at its end: what it hands back, value and resources. -/
theorem HX.finG {e : Exit} {Us : List Ty} {T : Value → Ty} {Lo : Value → List Res} (is : List (List Nat)) (he : e = .ret ∨ e = .normal) (hr : ResR P L E fn.results.toList Us) (hT : ∀ G v, (retTy Us).p G v → (T v).p G v ∧ PickX L is (Lo v)) (hd : distinct is.flatten = true) : HX (FC P N w0 G0 S0) E L (bodyPost P fn (RetR w0 G0 S0 T Lo)) e :=
  HX.val he fun a w G S hi ht => by
    obtain ⟨v, h1, h2⟩ := hr.val ht hi.owns
    obtain ⟨h3, h4⟩ := hT G v h2
    exact ⟨v, h1, h3, _, hi.owns.pickX hd h4, fun k b ⟨_, _, i, _, hb⟩ => ⟨i, hb⟩⟩
theorem HX.fin {e : Exit} {Us : List Ty} {T : Ty} {Lo : List Res} (is : List (List Nat)) (he : e = .ret ∨ e = .normal) (hr : ResR P L E fn.results.toList Us) (hd : distinct is.flatten = true) (hp : PickX L is Lo) (hT : Sub (retTy Us) T) : HX (FC P N w0 G0 S0) E L (bodyPost P fn (RetR w0 G0 S0 (fun _ => T) (fun _ => Lo))) e :=
  HX.finG is he hr (fun G v h => ⟨hT G v h, hp⟩) hd
/-- The value is known: a pointer. -/
theorem HX.finP {e : Exit} {u : Value} {T : Value → Ty} {Lo : Value → List Res} (is : List (List Nat)) (he : e = .ret ∨ e = .normal) (hr : ResR P L E fn.results.toList [Is u]) (hd : distinct is.flatten = true) (hp : PickX L is (Lo u)) (hT : Sub (Is u) (T u)) : HX (FC P N w0 G0 S0) E L (bodyPost P fn (RetR w0 G0 S0 T Lo)) e :=
  HX.finG is he hr (fun G v h => by cases h; exact ⟨hT G _ rfl, hp⟩) hd
end

/-! ### loops and joints -/
theorem Inv.pickX {F : FCtx} {A B : List Res} {is : List (List Nat)} {G : Imm} {w : World} {S : Nat → Nat → Prop} (h : Inv F A G w S) (hd : distinct is.flatten = true) (k : PickX A is B) : Inv F B G w (fun k b => ∃ js, is[k]? = some js ∧ ∃ i, i ∈ js ∧ S i b) := ⟨h.ext, h.owns.pickX hd k, fun j b ⟨_, _, i, _, hb⟩ => h.mine i b hb⟩
/-- The resources of a state, as a loop's head wants them. -/
structure To (L L' : List Res) : Prop where
  to : ∃ is, distinct is.flatten = true ∧ PickX L is L'
theorem To.mk' {L L' : List Res} {is : List (List Nat)} (hp : PickX L is L') (hd : distinct is.flatten = true) : To L L' := ⟨⟨is, hd, hp⟩⟩
theorem HT.loopX {F : FCtx} {E : Env} {L : List Res} {Q : Exit → Act → World → Prop} {c : Code} {σ : Type} (ks : List Nat) (upd : σ → Env) (L' : σ → List Res) (I : σ → Prop) (μ : σ → Nat) (s0 : σ) (hI : I s0) (hL : To L (L' s0)) (hu : SubE E (upd s0))
    (body : ∀ s, I s → HT F (upd s ++ E.keep ks) (L' s) c (Exit.then (RoundK F E ks upd L' I μ s) Q)) : HT F E L (.loop c) Q :=
  HT.loop (fun s => upd s ++ E.keep ks) L' I μ (fun a w G S hi ht => let ⟨is, hd, hp⟩ := hL.to; ⟨s0, G, _, hI, hi.pickX hd hp, ht.sub (hu.append (SubE.keep E ks))⟩) body
theorem HX.roundX {F : FCtx} {E E2 : Env} {L2 : List Res} {Q : Exit → Act → World → Prop} {σ : Type} {ks : List Nat} {upd : σ → Env} {L' : σ → List Res} {I : σ → Prop} {μ : σ → Nat} {s : σ} (s' : σ) (hI : I s' ∧ μ s' < μ s) (hk : E2.keep ks = E.keep ks) (hL : To L2 (L' s')) (hu : SubE E2 (upd s')) : HX F E2 L2 (Exit.then (RoundK F E ks upd L' I μ s) Q) .normal :=
  fun a w G S hi ht => let ⟨is, hd, hp⟩ := hL.to; ⟨s', G, _, hI, hi.pickX hd hp, ht.sub (hu.append (by rw [← hk]; exact SubE.keep E2 ks))⟩
theorem HX.midX {F : FCtx} {E E2 : Env} {L2 : List Res} {Q : Exit → Act → World → Prop} {σ : Type} {ks : List Nat} {upd : σ → Env} {L' : σ → List Res} {I : σ → Prop} (s' : σ) (hI : I s') (hk : E2.keep ks = E.keep ks) (hL : To L2 (L' s')) (hu : SubE E2 (upd s')) : HX F E2 L2 (Exit.then (MidK F E ks upd L' I) Q) .normal :=
  fun a w G S hi ht => let ⟨is, hd, hp⟩ := hL.to; ⟨s', G, _, hI, hi.pickX hd hp, ht.sub (hu.append (by rw [← hk]; exact SubE.keep E2 ks))⟩
/-- Some of the resources are let go, the others change places. -/
theorem HT.to {F : FCtx} {E : Env} {L L' : List Res} {Q : Exit → Act → World → Prop} {c : Code} (hL : To L L') (h : HT F E L' c Q) : HT F E L c Q := fun a w G S hi ht =>
  let ⟨is, hd, hp⟩ := hL.to; h a w G _ (hi.pickX hd hp) ht
/-- What is hidden is named. -/
theorem HT.unpack {F : FCtx} {E : Env} {L : List Res} {Q : Exit → Act → World → Prop} {c : Code} {σ : Type} {Rs : σ → List Res} (i : Nat) (hL : L[i]? = some (packR Rs)) (h : ∀ s, HT F E (L.set i empR ++ Rs s) c Q) : HT F E L c Q := fun a w G S hi ht => by
  obtain ⟨s, S', h1, h2⟩ := hi.owns.unpack hL
  exact h s a w G S' ⟨hi.ext, h1, fun k b hb => by obtain ⟨j, hj⟩ := h2 k b hb; exact hi.mine j b hj⟩ ht
end Go.Vk
