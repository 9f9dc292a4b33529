/-
  Rows of one's own that are written in place: slices and arrays whose elements may be turned. Nothing here speaks of a program; no conditions.
-/
import Derived.Test.YtohhhaeemephnaaGaf
import Derived.Test.YtohhhaeemephnaaGag
set_option linter.unusedSimpArgs false
set_option linter.unusedVariables false
set_option linter.unusedVariables false
namespace Go.Vk
/-! ### rows, laid flat -/
section
variable {α : Type}
theorem flat_get {sz : Nat} {f : α → List Ty} : ∀ {l : List α} {rest : List Ty} {i : Nat} {a : α} {j : Nat} {T : Ty}, (∀ a ∈ l, (f a).length = sz) → l[i]? = some a → (f a)[j]? = some T → (l.flatMap f ++ rest)[i * sz + j]? = some T
  | [], rest, i, a, j, T, _, hi, _ => by simp at hi
  | b :: l, rest, 0, a, j, T, hl, hi, hj => by
    simp at hi; subst hi
    rw [List.flatMap_cons, List.append_assoc, List.getElem?_append_left (by have := (List.getElem?_eq_some_iff.1 hj).1; omega), Nat.zero_mul, Nat.zero_add]
    exact hj
  | b :: l, rest, i + 1, a, j, T, hl, hi, hj => by
    have hb := hl b (by simp)
    rw [List.flatMap_cons, List.append_assoc, List.getElem?_append_right (by rw [hb, Nat.succ_mul]; omega), hb]
    have := flat_get (l := l) (rest := rest) (fun a ha => hl a (by simp [ha])) (by simpa using hi) hj
    rw [← this]
    congr 1
    rw [Nat.succ_mul]; omega
theorem flat_length {sz : Nat} {f : α → List Ty} : ∀ {l : List α}, (∀ a ∈ l, (f a).length = sz) → (l.flatMap f).length = l.length * sz
  | [], _ => by simp
  | b :: l, hl => by
    rw [List.flatMap_cons, List.length_append, hl b (by simp), flat_length (fun a ha => hl a (by simp [ha])), List.length_cons, Nat.succ_mul]; omega
/-- Some cells of one element are written. -/
theorem flat_seg {sz : Nat} {f : α → List Ty} : ∀ {l : List α} {rest : List Ty} {i : Nat} {a a' : α} {off : Nat} {us : List Ty}, (∀ a ∈ l, (f a).length = sz) → l[i]? = some a → off + us.length ≤ sz → (f a).take off ++ us ++ (f a).drop (off + us.length) = f a' →
    (l.flatMap f ++ rest).take (i * sz + off) ++ us ++ (l.flatMap f ++ rest).drop (i * sz + off + us.length) = (l.set i a').flatMap f ++ rest
  | [], rest, i, a, a', off, us, _, hi, _, _ => by simp at hi
  | b :: l, rest, 0, a, a', off, us, hl, hi, hj, he => by
    simp at hi; subst hi
    have hb := hl b (by simp)
    have e1 : (b :: l).flatMap f ++ rest = f b ++ (l.flatMap f ++ rest) := by rw [List.flatMap_cons, List.append_assoc]
    have e2 : ((b :: l).set 0 a').flatMap f ++ rest = f a' ++ (l.flatMap f ++ rest) := by rw [List.set_cons_zero, List.flatMap_cons, List.append_assoc]
    rw [Nat.zero_mul, Nat.zero_add, e1, e2, ← he, List.take_append_of_le_length (by omega), List.drop_append_of_le_length (by omega)]
    simp only [List.append_assoc]
  | b :: l, rest, i + 1, a, a', off, us, hl, hi, hj, he => by
    have hb := hl b (by simp)
    have ih := flat_seg (l := l) (rest := rest) (fun a ha => hl a (by simp [ha])) (by simpa using hi) hj he
    have e2 : (b :: l).flatMap f ++ rest = f b ++ (l.flatMap f ++ rest) := by rw [List.flatMap_cons, List.append_assoc]
    have e3 : ((b :: l).set (i + 1) a').flatMap f ++ rest = f b ++ ((l.set i a').flatMap f ++ rest) := by rw [List.set_cons_succ, List.flatMap_cons, List.append_assoc]
    rw [e2, e3, ← ih]
    have e1 : (i + 1) * sz + off = (f b).length + (i * sz + off) := by rw [hb, Nat.succ_mul]; omega
    rw [e1, Nat.add_assoc (f b).length, List.take_length_add_append, List.drop_length_add_append]
    simp only [List.append_assoc]
theorem flat_row {sz : Nat} {f : α → List Ty} : ∀ {l : List α} {rest : List Ty} {i : Nat} {a : α}, (∀ a ∈ l, (f a).length = sz) → l[i]? = some a → ((l.flatMap f ++ rest).drop (i * sz)).take sz = f a
  | [], rest, i, a, _, hi => by simp at hi
  | b :: l, rest, 0, a, hl, hi => by
    simp at hi; subst hi
    have hb := hl b (by simp)
    rw [Nat.zero_mul, List.drop_zero, List.flatMap_cons, List.append_assoc, List.take_append_of_le_length (by omega), List.take_of_length_le (by omega)]
  | b :: l, rest, i + 1, a, hl, hi => by
    have hb := hl b (by simp)
    have ih := flat_row (l := l) (rest := rest) (fun a ha => hl a (by simp [ha])) (by simpa using hi)
    rw [List.flatMap_cons, List.append_assoc, show (i + 1) * sz = (f b).length + i * sz by rw [hb, Nat.succ_mul]; omega, ← List.drop_drop, List.drop_left]
    exact ih
end
/-- Elements of one's own in the block g, which has room for c: what they are may be turned. -/
def ownA {α : Type} (g c : Nat) (e : TypeId) (sz : Nat) (f : α → List Ty) (l : List α) : Res where
  p S G w := (∀ a ∈ l, (f a).length = sz) ∧ l.length ≤ c ∧ c ≤ maxLen ∧ ∃ rest, (l.flatMap f ++ rest).length = c * sz ∧ (ownP g e (l.flatMap f ++ rest)).p S G w
  loc := fun ⟨h1, h2, h3, rest, h5, h4⟩ hle hb => ⟨h1, h2, h3, rest, h5, (ownP g e (l.flatMap f ++ rest)).loc h4 hle hb⟩
/-- A slice at the head of a block of one's own. -/
@[irreducible] def slAt (g n c : Nat) : Value := .slice (some ⟨g, 0, none⟩) n c
def sblk : Value → Nat
  | .slice (some a) _ _ => a.block
  | _ => 0
def scap : Value → Nat
  | .slice _ _ c => c
  | _ => 0
/-- The address of a cell of the i-th element. -/
@[irreducible] def pEl (g sz i off : Nat) : Value := pAt g (i * sz + off)
theorem slAt_def (g n c : Nat) : slAt g n c = .slice (some ⟨g, 0, none⟩) n c := by unfold slAt; rfl
theorem pEl_def (g sz i off : Nat) : pEl g sz i off = pAt g (i * sz + off) := by unfold pEl; rfl
theorem Owns.put {S : Nat → Nat → Prop} {L : List Res} {G : Imm} {w : World} {k : Nat} {R R' : Res} (h : Owns S L G w) (hL : L[k]? = some R) (hr : R'.p (S k) G w) : Owns S (L.set k R') G w := by
  have hk : k < L.length := (List.getElem?_eq_some_iff.1 hL).1
  refine ⟨h.bound, h.disj, fun i b hb => by simpa using h.inL i b hb, fun i r hi => ?_⟩
  rw [List.getElem?_set] at hi
  by_cases hik : k = i
  · subst hik; rw [if_pos rfl, if_pos hk] at hi; cases hi; exact hr
  · rw [if_neg hik] at hi; exact h.res i r hi
section
variable {P : Program} {L : List Res} {E : Env} {dst : Option Tmp} {ty : TypeId} {pos : String} {after : Array Edge} {gd : Option (Nat × Bool)} {α : Type} {g c sz : Nat} {e : TypeId} {f : α → List Ty} {l : List α}
theorem OpP.openA {o : Oper} {T : Ty} {k : Nat} (hL : L[k]? = some (ownA g c e sz f l)) (h : (∀ a ∈ l, (f a).length = sz) → ∀ rest, OpP P (L.set k (ownP g e (l.flatMap f ++ rest))) E o T) : OpP P L E o T := fun a w G S hs ho ht K Q kk => by
  obtain ⟨h1, _, _, rest, _, h4⟩ := ho.res k _ hL
  exact h h1 rest a w G S hs (ho.put hL h4) ht K Q kk
theorem set_at {L : List Res} {k : Nat} {R R' : Res} (h : L[k]? = some R) : (L.set k R')[k]? = some R' := by
  rw [List.getElem?_set, if_pos rfl, if_pos (List.getElem?_eq_some_iff.1 h).1]
/-! ### addresses -/
theorem op_lenA {x : Operand} {n : Nat} {t e' : TypeId} (hx : Opd E x = some (Is (slAt g n c))) (hu : P.underlying t = some (.slice e')) : OpP P L E ⟨dst, .call { callee := .builtin .len, args := #[x], argTypes := #[t] }, ty, pos, after, gd⟩ (okI .i64 (n : Int)) :=
  OpP.same fun a w G S _ _ ho => by
    have e1 : a.eval x = .slice (some ⟨g, 0, none⟩) n c := (ho x (by simp [Op.operands, Call.operands]) _ hx).trans (slAt_def g n c)
    refine ⟨.int .i64 n, ?_, rfl⟩
    simp only [execOp, resolve]
    simp [invoke, builtin, e1, Builtin.len_, Builtin.lenOf, run_underlying hu, goInt]
theorem op_indexA {x i : Operand} {n m : Nat} {k : IntKind} {t : TypeId} (hx : Opd E x = some (Is (slAt g n c))) (hi : Opd E i = some (okI k (m : Int))) (hu : P.underlying t = some (.slice e)) (hsz : P.cellsOf e = sz) (hinf : (P.info? e).isSome = true) (h : m < n) : OpP P L E ⟨dst, .indexAddr t x i, ty, pos, after, gd⟩ (Is (pEl g sz m 0)) :=
  OpP.same fun a w G S _ _ ho => by
    have e1 : a.eval x = .slice (some ⟨g, 0, none⟩) n c := (ho x (by simp [Op.operands]) _ hx).trans (slAt_def g n c)
    have e2 : a.eval i = .int k m := ho i (by simp [Op.operands]) _ hi
    obtain ⟨inf, hinf⟩ := Option.isSome_iff_exists.1 hinf
    have hs : inf.size = sz := by simpa [Program.cellsOf, hinf] using hsz
    refine ⟨pEl g sz m 0, ?_, rfl⟩
    rw [pEl_def]
    have e3 : (⟨g, 0, none⟩ : Addr).add (m * sz) = ⟨g, m * sz, none⟩ := by
      unfold Addr.add; split <;> simp_all
    simp only [execOp, e1, e2]
    simp [Instr.indexAt, asIntOf, run_underlying hu, h, sizeOf, typeInfo, hinf, hs, e3]
theorem op_nilE {x : Operand} {i off : Nat} (hx : Opd E x = some (Is (pEl g sz i off))) : OpP P L E ⟨dst, .nilCheck x, ty, pos, after, gd⟩ (Is (pEl g sz i off)) := by
  rw [pEl_def] at hx ⊢; exact op_nilP hx
theorem op_faddrE {x : Operand} {i off foff off' : Nat} {s : TypeId} {j : Nat} (hx : Opd E x = some (Is (pEl g sz i off))) (hf : fieldOff P s j = some foff) (ho : off + foff = off') : OpP P L E ⟨dst, .fieldAddr s x j, ty, pos, after, gd⟩ (Is (pEl g sz i off')) := by
  rw [pEl_def] at hx ⊢; exact op_faddrP hx hf (by omega)
/-! ### loads and stores -/
theorem op_loadE {x : Operand} {i off : Nat} {a : α} {T : Ty} {t : TypeId} (k : Nat) (hx : Opd E x = some (Is (pEl g sz i off))) (hL : L[k]? = some (ownA g c e sz f l)) (hag : aggB P t = some false) (ha : l[i]? = some a) (hT : (f a)[off]? = some T) : OpP P L E ⟨dst, .load t x, ty, pos, after, gd⟩ T := by
  rw [pEl_def] at hx
  exact .openA hL fun h1 rest => op_loadO k hx (set_at hL) (flat_get h1 ha hT) hag
theorem op_loadEA {x : Operand} {i : Nat} {a : α} {t : TypeId} (k : Nat) (hx : Opd E x = some (Is (pEl g sz i 0))) (hL : L[k]? = some (ownA g c e sz f l)) (hag : aggB P t = some true) (hsz : (P.info? t).map (·.size) = some sz) (ha : l[i]? = some a) : OpP P L E ⟨dst, .load t x, ty, pos, after, gd⟩ (TAgg (f a)) := by
  rw [pEl_def, Nat.add_zero] at hx
  exact .openA hL fun h1 rest => op_loadAO k hx (set_at hL) hag hsz (flat_row h1 ha) (h1 a (List.mem_of_getElem? ha))
theorem getD_get [Inhabited α] {i : Nat} (h : i < l.length) : l[i]? = some (l.getD i default) := by
  rw [List.getD_eq_getElem?_getD, List.getElem?_eq_getElem h]; rfl
/-- What a store of a T at a place of an element makes of it. -/
structure SetF {α β : Type} (f : α → List Ty) (off : Nat) (F : β → Ty) (upd : α → β → α) : Prop where
  h : ∀ a b, f (upd a b) = (f a).set off (F b)
theorem OpC.openA {o : Oper} {k : Nat} {l' : List α} (hL : L[k]? = some (ownA g c e sz f l)) (hlen : l'.length = l.length) (hf' : (∀ a ∈ l, (f a).length = sz) → ∀ a ∈ l', (f a).length = sz) {L' : List Res} (hL' : L.set k (ownA g c e sz f l') = L')
    (h : (∀ a ∈ l, (f a).length = sz) → ∀ rest, OpC P (L.set k (ownP g e (l.flatMap f ++ rest))) E o (fun v => Is v) (fun _ => (L.set k (ownP g e (l.flatMap f ++ rest))).set k (ownP g e (l'.flatMap f ++ rest)))) : OpC P L E o (fun v => Is v) (fun _ => L') := by
  subst hL'
  intro a w G S hs ho ht K Q kk
  obtain ⟨h1, h2, h3, rest, h5, h4⟩ := ho.res k _ hL
  refine h h1 rest a w G S hs (ho.put hL h4) ht K Q fun v w' G' S' hext ho' hs' hv => ?_
  refine kk v w' G' S' hext ?_ hs' hv
  have hk : k < L.length := (List.getElem?_eq_some_iff.1 hL).1
  have hget : ((L.set k (ownP g e (l.flatMap f ++ rest))).set k (ownP g e (l'.flatMap f ++ rest)))[k]? = some (ownP g e (l'.flatMap f ++ rest)) := set_at (set_at hL)
  have hres := ho'.res k _ hget
  have := ho'.put (R' := ownA g c e sz f l') hget ⟨hf' h1, by omega, h3, rest, by rw [List.length_append, flat_length (hf' h1), hlen, ← flat_length h1, ← List.length_append]; exact h5, hres⟩
  simpa using this
theorem oc_storeE {β : Type} {x y : Operand} {i off : Nat} [Inhabited α] {F : β → Ty} {upd : α → β → α} {b : β} {t : TypeId} {L' : List Res} (k : Nat) (hset : SetF f off F upd) (hx : Opd E x = some (Is (pEl g sz i off))) (hL : L[k]? = some (ownA g c e sz f l)) (hy : Opd E y = some (F b)) (h1c : One (F b)) (hsz : (P.info? t).map (·.size) = some 1) (hi : i < l.length) (hlt : Nat.blt off sz = true) (hL' : L.set k (ownA g c e sz f (l.set i (upd (l.getD i default) b))) = L') :
    OpC P L E ⟨dst, .store t x y, ty, pos, after, gd⟩ (fun v => Is v) (fun _ => L') := by
  have hlt' : off < sz := Nat.le_of_ble_eq_true hlt
  rw [pEl_def] at hx
  have hgi := getD_get hi
  have hmem : l.getD i default ∈ l := List.mem_of_getElem? hgi
  refine .openA (l' := l.set i (upd (l.getD i default) b)) hL (by simp) (fun h1 a ha => ?_) hL' fun h1 rest => ?_
  · rcases List.mem_or_eq_of_mem_set ha with ha | rfl
    · exact h1 a ha
    · rw [hset.h]; simpa using h1 _ hmem
  · have hfl : (f (l.getD i default)).length = sz := h1 _ hmem
    refine op_storeO k hx hy h1c (set_at hL) hsz ?_ ?_ rfl
    · have : i * sz + off < (l.flatMap f ++ rest).length := by
        rw [List.length_append, flat_length h1]
        have : (i + 1) * sz ≤ l.length * sz := Nat.mul_le_mul_right _ hi
        rw [Nat.succ_mul] at this
        omega
      exact Nat.ble_eq_true_of_le this
    · have hs := flat_seg (rest := rest) (a' := upd (l.getD i default) b) (off := off) (us := [F b]) h1 hgi (by simp; omega) (by
        rw [hset.h, List.set_eq_take_append_cons_drop, if_pos (by omega)]; simp)
      rw [← hs, List.set_eq_take_append_cons_drop, if_pos (by
        rw [List.length_append, flat_length h1]
        have : (i + 1) * sz ≤ l.length * sz := Nat.mul_le_mul_right _ hi
        rw [Nat.succ_mul] at this
        omega)]
      simp
theorem oc_storeEA {x y : Operand} {i : Nat} {a' : α} {t : TypeId} {L' : List Res} (k : Nat) (hx : Opd E x = some (Is (pEl g sz i 0))) (hL : L[k]? = some (ownA g c e sz f l)) (hy : Opd E y = some (TAgg (f a'))) (hsz : (P.info? t).map (·.size) = some sz) (hn : Nat.beq (f a').length sz = true) (hi : i < l.length) (hL' : L.set k (ownA g c e sz f (l.set i a')) = L') :
    OpC P L E ⟨dst, .store t x y, ty, pos, after, gd⟩ (fun v => Is v) (fun _ => L') := by
  have hn' := Nat.eq_of_beq_eq_true hn
  rw [pEl_def, Nat.add_zero] at hx
  have hgi : l[i]? = some l[i] := List.getElem?_eq_getElem hi
  refine .openA (l' := l.set i a') hL (by simp) (fun h1 a ha => ?_) hL' fun h1 rest => ?_
  · rcases List.mem_or_eq_of_mem_set ha with ha | rfl
    · exact h1 a ha
    · exact hn'
  · have hfl : (f l[i]).length = sz := h1 _ (List.mem_of_getElem? hgi)
    refine op_storeAO k hx hy (set_at hL) hsz hn' ?_ ?_ rfl
    · have : i * sz + sz ≤ (l.flatMap f ++ rest).length := by
        rw [List.length_append, flat_length h1]
        have : (i + 1) * sz ≤ l.length * sz := Nat.mul_le_mul_right _ hi
        rw [Nat.succ_mul] at this
        omega
      exact Nat.ble_eq_true_of_le this
    · have hs := flat_seg (rest := rest) (a' := a') (off := 0) (us := f a') h1 hgi (by omega) (by rw [List.drop_of_length_le (by omega)]; simp)
      rw [← hs, hn', Nat.add_zero]
end
/-! ### what is one's own is given away: it stays as it is -/
theorem Inv.give {F : FCtx} {L : List Res} {G : Imm} {w : World} {S : Nat → Nat → Prop} {α : Type} {g c sz k : Nat} {e : TypeId} {f : α → List Ty} {l : List α} (h : Inv F L G w S) (hL : L[k]? = some (ownA g c e sz f l)) :
    ∃ G', Imm.le G G' ∧ Inv F (L.set k empR) G' w (fun i b => i ≠ k ∧ S i b) ∧ (TSl sz f l).p G' (slAt g l.length c) := by
  obtain ⟨h1, h2, h3, rest, _, hS, ⟨cs, hc, hcs, hv⟩, hfree⟩ := h.owns.res k _ hL
  have hgS : S k g := (hS g).2 rfl
  have hle : Imm.le G (fun b o => if b = g then cs[o]? else G b o) := fun b o v hb => by
    by_cases hbg : b = g
    · subst hbg; rw [hfree] at hb; cases hb
    · show (if b = g then cs[o]? else G b o) = some v
      rw [if_neg hbg]; exact hb
  have hoth : ∀ b, b ≠ g → ∀ o, (fun b o => if b = g then cs[o]? else G b o : Imm) b o = G b o := fun b hb o => by
    show (if b = g then cs[o]? else G b o) = G b o
    rw [if_neg hb]
  have hsat : Sat (fun b o => if b = g then cs[o]? else G b o) w := fun b o v hb => by
    by_cases hbg : b = g
    · subst hbg
      have hb' : cs[o]? = some v := by
        have : (if b = b then cs[o]? else G b o) = some v := hb
        rwa [if_pos rfl] at this
      simp [World.cell?, hc, hb']
    · have hb' : G b o = some v := by
        have : (if b = g then cs[o]? else G b o) = some v := hb
        rwa [if_neg hbg] at this
      exact h.ext.sat b o v hb'
  have hk : k < L.length := (List.getElem?_eq_some_iff.1 hL).1
  refine ⟨_, hle, ⟨⟨hsat, h.ext.le.trans hle, h.ext.os, h.ext.tape, h.ext.output, h.ext.size, fun b hb hx => ?_⟩, ?_, fun i b hb => h.mine i b hb.2⟩, ?_⟩
  · obtain ⟨e1, e2⟩ := h.ext.blk b hb hx
    refine ⟨e1, fun o => (hoth b (fun hbg => ?_) o).trans (e2 o)⟩
    subst hbg
    rcases h.mine k b hgS with hX | hX
    · exact hx hX
    · omega
  · refine ⟨fun i b hb => h.owns.bound i b hb.2, fun i j b hi hj => h.owns.disj i j b hi.2 hj.2, fun i b hb => by simpa using h.owns.inL i b hb.2, fun i r hr => ?_⟩
    rw [List.getElem?_set] at hr
    by_cases hik : k = i
    · subst hik
      rw [if_pos rfl, if_pos hk] at hr
      cases hr
      exact trivial
    · rw [if_neg hik] at hr
      have := h.owns.res i r hr
      have heq : (fun b => i ≠ k ∧ S i b) = S i := by
        funext b; exact propext ⟨fun x => x.2, fun x => ⟨fun e => hik e.symm, x⟩⟩
      rw [heq]
      refine r.loc this hle fun b hb => ⟨rfl, hoth b fun hbg => ?_⟩
      subst hbg
      exact hik (h.owns.disj k i b hgS hb)
  · rw [slAt_def]
    refine ⟨some ⟨g, 0, none⟩, c, rfl, h2, h3, (fun x => by cases x), (fun x => by cases x), fun ad had => ?_⟩
    cases had
    refine ⟨fun _ => rfl, fun i y hy => ⟨h1 y (List.mem_of_getElem? hy), fun j T hT => ?_⟩⟩
    obtain ⟨u, hu, hTu, h1c⟩ := hv (i * sz + j) T (flat_get h1 hy hT)
    refine ⟨u, ?_, T.mono hle hTu, h1c⟩
    show (if g = g then cs[0 + i * sz + j]? else G g _) = some u
    rw [if_pos rfl, Nat.zero_add]; exact hu
section
variable {F : FCtx} {E : Env} {L : List Res} {Q : Exit → Act → World → Prop} {code : Code} {α : Type} {g c sz n : Nat} {e : TypeId} {f : α → List Ty} {l : List α}
theorem HT.give {t : Nat} (k : Nat) (hE : E.get t = some (Is (slAt g n c))) (hL : L[k]? = some (ownA g c e sz f l)) (hn : n = l.length) (h : HT F ((t, TSl sz f l) :: E) (L.set k empR) code Q) : HT F E L code Q := fun a w G S hi ht => by
  obtain ⟨G', hle, hi', hT⟩ := hi.give hL
  refine h a w G' _ hi' ⟨ht.size, ht.defers, fun t' T' e' => ?_⟩
  have hm := ht.mono hle
  simp only [Env.get] at e'
  cases hb : Nat.beq t t' with
  | false => rw [hb] at e'; exact hm.get t' T' e'
  | true =>
    rw [hb] at e'
    cases e'
    have := Nat.eq_of_beq_eq_true hb
    subst this
    have hv : a.tmps.getD t undef = slAt g n c := ht.get t _ hE
    rw [hv, hn]; exact hT
/-- The same, of a slice that lies in a variable of one's own. -/
theorem HT.giveP {g2 j : Nat} {e2 : TypeId} {ts : List Ty} (k k2 : Nat) (hL : L[k]? = some (ownA g c e sz f l)) (hL2 : L[k2]? = some (ownP g2 e2 ts)) (hj : ts[j]? = some (Is (slAt g n c))) (hn : n = l.length) (hne : Nat.beq k k2 = false) (h : HT F E ((L.set k empR).set k2 (ownP g2 e2 (ts.set j (TSl sz f l)))) code Q) : HT F E L code Q := fun a w G S hi ht => by
  obtain ⟨G', hle, hi', hT⟩ := hi.give hL
  have hne' : k ≠ k2 := fun x => by rw [x, Nat.beq_refl] at hne; cases hne
  have hL2' : (L.set k empR)[k2]? = some (ownP g2 e2 ts) := by rw [List.getElem?_set, if_neg hne']; exact hL2
  obtain ⟨q1, ⟨cs, q2, q3, q4⟩, q5⟩ := hi'.owns.res k2 _ hL2'
  refine h a w G' _ ⟨hi'.ext, hi'.owns.put hL2' ⟨q1, ⟨cs, q2, by simpa using q3, fun i T hT' => ?_⟩, q5⟩, hi'.mine⟩ (ht.mono hle)
  rw [List.getElem?_set] at hT'
  by_cases hij : j = i
  · subst hij
    have hjl := (List.getElem?_eq_some_iff.1 hj).1
    rw [if_pos rfl, if_pos hjl] at hT'
    cases hT'
    obtain ⟨u, a1, a2, a3⟩ := q4 j _ hj
    refine ⟨u, a1, ?_, a3⟩
    have hu : u = slAt g n c := a2
    rw [hu, hn]; exact hT
  · rw [if_neg hij] at hT'
    exact q4 i T hT'
end
/-! ### new rows -/
section
variable {P : Program} {L : List Res} {E : Env} {dst : Option Tmp} {ty : TypeId} {pos : String} {after : Array Edge} {gd : Option (Nat × Bool)} {α : Type} {sz by_ : Nat} {f : α → List Ty} {m : List α} {t e : TypeId} {z : Value}
/-- append onto what has no room, of some elements: a row of one's own. -/
theorem oc_appendNew {β : Type} {f0 : β → List Ty} {x y : Operand} {U : Ty} {L' : Value → List Res} (hx : Opd E x = some (TSlX sz f0 [])) (hy : Opd E y = some U) (hs : Sub U (TSl sz f m))
    (hu : P.underlying t = some (.slice e)) (hinf : (P.info? e).map (fun i => (i.zero, i.size, i.bytes)) = some (some z, sz, by_)) (hz1 : z.cells.toList.all Value.oneCell' = true) (hzc : z.cells.size = sz) (hb1 : Nat.ble by_ 1024 = true) (hl : 0 < m.length ∧ m.length ≤ 137438953472) (hL' : ∀ v, L ++ [ownA (sblk v) (scap v) e sz f m] = L' v) :
    OpC P L E ⟨dst, .call { callee := .builtin .append, args := #[x, y], argTypes := #[t, t] }, ty, pos, after, gd⟩ (fun v => Is (slAt (sblk v) m.length (scap v))) L' := by
  have hLe : L' = fun v => L ++ [ownA (sblk v) (scap v) e sz f m] := by funext v; exact (hL' v).symm
  subst hLe
  obtain ⟨hb, hm⟩ := upto_bytes hb1 hl.2
  intro a w G S hsat ho ht K Q kk
  have hxx := ht x (by simp [Op.operands, Call.operands]) _ hx
  have hyy := hs _ _ (ht y (by simp [Op.operands, Call.operands]) _ hy)
  obtain ⟨inf, hi, hiz, his, hib⟩ := info_parts hinf
  obtain ⟨av, capv, ev, hlcv, hcmv, hxc, hnilv, hadv⟩ := hxx
  have hcap : capv = 0 := hxc rfl
  subst hcap
  obtain ⟨ax, capx, ex, hlcx, hcmx, -, hnilx, hadx⟩ := hyy
  cases ax with
  | none => have := hnilx rfl; omega
  | some adx =>
    obtain ⟨hspx, helx⟩ := hadx adx rfl
    have hfl : ∀ y ∈ m, (f y).length = sz := fun y hy => by
      obtain ⟨k, hk, e⟩ := List.getElem_of_mem hy
      exact (helx k y (by rw [List.getElem?_eq_getElem hk, e])).1
    obtain ⟨news, hnl, hnG, hnT⟩ := sl_values (b := adx.block) (o := adx.off) (f := f) (sz := sz) (l := m) (G := G) helx
    have hnews : ∀ (j : Nat) (u : Value), news[j]? = some u → w.cell? (adx.add j) = some u := by
      intro j u hj
      have hcell := hsat _ _ _ (hnG j u hj).1
      have hspx := hspx hl.1
      obtain ⟨b, o, sp⟩ := adx
      simp only at hspx; subst hspx
      unfold Addr.add
      split
      · subst j; simpa using hcell
      · simpa using hcell
    have hsmall : (m.length : Int) ≤ 9223372036854775807 := by simp only [maxLen] at hm; omega
    have hfin : ∀ old, (Builtin.append_ #[t, t] ty #[a.eval x, a.eval y]).run P w = .ok (.slice (some ⟨w.heap.size, 0, none⟩) m.length (grownCap w m.length old e)) (w.drew.alloc (.cells (news.toArray ++ Builtin.zeroCells z.cells (grownCap w m.length old e - m.length)) e)) →
        Oper.wp P (⟨dst, .call { callee := .builtin .append, args := #[x, y], argTypes := #[t, t] }, ty, pos, after, gd⟩ : Oper) a w K Q := by
      intro old hrun
      have hr : (execOp a.eval (⟨dst, .call { callee := .builtin .append, args := #[x, y], argTypes := #[t, t] }, ty, pos, after, gd⟩ : Oper)).run P w = .ok (.value (.slice (some ⟨w.heap.size, 0, none⟩) m.length (grownCap w m.length old e))) (w.drew.alloc (.cells (news.toArray ++ Builtin.zeroCells z.cells (grownCap w m.length old e - m.length)) e)) := by
        simp only [execOp, resolve]
        simp [invoke, builtin, hrun]
      simp only [Oper.wp, hr, Oper.upon_value]
      have hnew : (w.drew.alloc (.cells (news.toArray ++ Builtin.zeroCells z.cells (grownCap w m.length old e - m.length)) e)).heap[w.heap.size]? = some (.cells (news.toArray ++ Builtin.zeroCells z.cells (grownCap w m.length old e - m.length)) e (0, 0)) := heap_new w _
      have hext0 := Ext.new hsat [] (.cells (news.toArray ++ Builtin.zeroCells z.cells (grownCap w m.length old e - m.length)) e) (fun j v hj => by simp at hj) (w.drew.alloc (.cells (news.toArray ++ Builtin.zeroCells z.cells (grownCap w m.length old e - m.length)) e)) rfl rfl rfl rfl
      have hG : Imm.add G w.heap.size [] = G := by
        funext b o
        unfold Imm.add
        by_cases hbg : b = w.heap.size
        · subst hbg
          rw [if_pos rfl]
          cases hgo : G w.heap.size o with
          | none => simp
          | some v => exact absurd (hsat.lt hgo) (by omega)
        · rw [if_neg hbg]
      rw [hG] at hext0
      have hfree : ∀ o, G w.heap.size o = none := fun o => by
        cases hgo : G w.heap.size o with
        | none => rfl
        | some v => exact absurd (hsat.lt hgo) (by omega)
      have hres : (ownA w.heap.size (grownCap w m.length old e) e sz f m).p (fun b => b = w.heap.size) G (w.drew.alloc (.cells (news.toArray ++ Builtin.zeroCells z.cells (grownCap w m.length old e - m.length)) e)) := by
        refine ⟨hfl, grownCap_ge w m.length old e, grownCap_le_maxLen w m.length old e hm, (Builtin.zeroCells z.cells (grownCap w m.length old e - m.length)).toList.map Is, by rw [List.length_append, flat_length hfl, List.length_map, show (Builtin.zeroCells z.cells (grownCap w m.length old e - m.length)).toList.length = (grownCap w m.length old e - m.length) * sz from by rw [Array.length_toList, size_zeroCells, hzc], ← Nat.add_mul, Nat.add_sub_cancel' (grownCap_ge w m.length old e)], fun b => Iff.rfl, ⟨_, hnew, ?_, ?_⟩, hfree⟩
        · simp [hnl, flat_length hfl]
        · intro j T hT
          by_cases hj : j < m.length * sz
          · rw [List.getElem?_append_left (by rw [flat_length hfl]; exact hj)] at hT
            have hsz0 : 0 < sz := Nat.pos_of_ne_zero fun h0 => by rw [h0] at hj; simp at hj
            have hdj : j / sz < m.length := (Nat.div_lt_iff_lt_mul hsz0).2 hj
            have hej : j = j / sz * sz + j % sz := by rw [Nat.mul_comm]; exact (Nat.div_add_mod j sz).symm
            have hrow := List.getElem?_eq_getElem hdj
            have hmod : j % sz < (f m[j / sz]).length := by rw [hfl _ (List.getElem_mem hdj)]; exact Nat.mod_lt _ hsz0
            have hfg := flat_get (rest := []) hfl hrow (List.getElem?_eq_getElem hmod)
            rw [← hej, List.append_nil] at hfg
            rw [hfg] at hT
            cases hT
            obtain ⟨u, g1, g2, g3⟩ := hnT _ _ hrow (j % sz) _ (List.getElem?_eq_getElem hmod)
            rw [← hej] at g1
            refine ⟨u, ?_, g2, g3⟩
            rw [Array.getElem?_append_left (by rw [List.size_toArray, hnl]; exact hj)]
            simpa using g1
          · rw [List.getElem?_append_right (by rw [flat_length hfl]; omega), flat_length hfl, List.getElem?_map] at hT
            obtain ⟨u, hu, rfl⟩ := Option.map_eq_some_iff.1 hT
            have hu' : (Builtin.zeroCells z.cells (grownCap w m.length old e - m.length))[j - m.length * sz]? = some u := by simpa using hu
            refine ⟨u, ?_, rfl, ?_⟩
            · rw [Array.getElem?_append_right (by rw [List.size_toArray, hnl]; omega), List.size_toArray, hnl]; exact hu'
            · rw [List.all_eq_true] at hz1
              obtain ⟨hlt, rfl⟩ := Array.getElem?_eq_some_iff.1 hu'
              have hpos : 0 < z.cells.size := by
                rw [size_zeroCells] at hlt
                exact Nat.pos_of_ne_zero fun h0 => by rw [h0] at hlt; simp at hlt
              refine hz1 _ ?_
              simp only [Builtin.zeroCells, Array.getElem_map, Array.getElem_range]
              have hm' := Nat.mod_lt (j - m.length * sz) hpos
              rw [getElem!_pos z.cells _ hm']
              exact Array.mem_toList_iff.2 (Array.getElem_mem hm')
      refine kk (.slice (some ⟨w.heap.size, 0, none⟩) m.length (grownCap w m.length old e)) _ G (fun i b => if i = L.length then b = w.heap.size else S i b) ⟨hext0.sat, hext0.le, hext0.os, hext0.tape, hext0.output, hext0.size, fun b hb' _ => hext0.blk b hb' (fun z => z)⟩ (ho.snoc hext0 _ (fun b => b = w.heap.size) (fun b hb' => by subst hb'; exact ⟨Nat.le_refl _, by simp⟩) hres) (fun i b hb' => ?_) ?_
      · by_cases hi : i = L.length
        · simp only [hi, if_true] at hb'; exact .inl (by omega)
        · simp only [hi, if_false] at hb'; exact .inr ⟨i, hb'⟩
      · show _ = slAt w.heap.size m.length (grownCap w m.length old e)
        rw [slAt_def]
    cases av with
    | none =>
      refine hfin 0 ?_
      have hr := run_append_nil (P := P) w t ty e inf z hu hi hiz adx m.length capx news (by rw [his]; exact hnl) hnews (by omega) hsmall (by rw [hib]; omega)
      rw [ev, ex, List.length_nil, hr]
    | some adv =>
      refine hfin 0 ?_
      have hr := run_append_grow (P := P) w t ty e inf z hu hi hiz adv 0 0 [] (by simp) (fun j u hj => by simp at hj) adx m.length capx news (by rw [his]; exact hnl) hnews (by omega) (by omega) (growslice_fits (by omega) (by rw [hib, Nat.zero_add]; exact hb))
      rw [ev, ex, List.length_nil, hr]
      simp
end
/-! ### pointers to what stays, compared with nil -/
section
variable {P : Program} {L : List Res} {E : Env} {dst : Option Tmp} {ty : TypeId} {pos : String} {after : Array Edge} {gd : Option (Nat × Bool)}
theorem run_eqCnil {g o : Nat} {xt t : TypeId} (w : World) (hu : P.underlying xt = some (.pointer t)) : (Op.equal xt (pAt g o) (.pointer none)).run P w = .ok false w := by
  have h : ∀ d, (Op.equalIn (d + 1) xt (pAt g o) (.pointer none)).run P w = .ok false w := fun d => by simp [Op.equalIn, run_underlying hu]
  exact h 9999
theorem op_eqCnil {x : Operand} {ts : List Ty} {xt yt t : TypeId} (hx : Opd E x = some (TPc ts)) (hu : P.underlying xt = some (.pointer t)) : OpP P L E ⟨dst, .binOp .eql xt x (.const (.pointer none)) yt, ty, pos, after, gd⟩ (Is (.bool false)) :=
  OpP.same fun a w G S _ _ ho => by
    obtain ⟨g, o, h1, _⟩ := ho x (by simp [Op.operands]) _ hx
    refine ⟨.bool false, ?_, rfl⟩
    have h0 : a.eval (.const (.pointer none)) = .pointer none := rfl
    simp only [execOp, h1, h0]
    simp [eqGuard, binOp, run_eqCnil w hu]
theorem op_neCnil {x : Operand} {ts : List Ty} {xt yt t : TypeId} (hx : Opd E x = some (TPc ts)) (hu : P.underlying xt = some (.pointer t)) : OpP P L E ⟨dst, .binOp .neq xt x (.const (.pointer none)) yt, ty, pos, after, gd⟩ (Is (.bool true)) :=
  OpP.same fun a w G S _ _ ho => by
    obtain ⟨g, o, h1, _⟩ := ho x (by simp [Op.operands]) _ hx
    refine ⟨.bool true, ?_, rfl⟩
    have h0 : a.eval (.const (.pointer none)) = .pointer none := rfl
    simp only [execOp, h1, h0]
    simp [eqGuard, binOp, run_eqCnil w hu]
end
section
variable {P : Program} {L : List Res} {E : Env} {dst : Option Tmp} {ty : TypeId} {pos : String} {after : Array Edge} {gd : Option (Nat × Bool)}
/-- A whole variable of one's own; of a slice of one's own in it stays what it reads as. -/
theorem op_loadAW {x : Operand} {g : Nat} {e : TypeId} {ts ts' : List Ty} {t : TypeId} (i : Nat) (hx : Opd E x = some (Is (pAt g 0))) (hL : L[i]? = some (ownP g e ts)) (hag : aggB P t = some true) (hsz : (P.info? t).map (·.size) = some ts.length) (hs : TsSub ts ts') : OpP P L E ⟨dst, .load t x, ty, pos, after, gd⟩ (TAgg ts') := by
  have h := op_loadAO (dst := dst) (ty := ty) (pos := pos) (after := after) (gd := gd) (ts := ts) (ts' := ts) i hx hL hag hsz (by simp) rfl
  intro a w G S hs' ho ht K Q k
  exact h a w G S hs' ho ht K Q fun v w' G' he hv => k v w' G' he (Sub.agg hs _ _ hv)
theorem TsSub.own {v : Value} {T : Ty} {A B : List Ty} (k : TsSub A B) : TsSub (TAnd (Is v) T :: A) (T :: B) := ⟨Sub.ownR (Sub.refl _), k⟩
theorem TsSub.keep {T : Ty} {A B : List Ty} (k : TsSub A B) : TsSub (T :: A) (T :: B) := ⟨Sub.refl _, k⟩
end
/-! ### guarded calls that turn what is one's own: the guard is known -/
/-- Slots of guarded operations whose guards are known where they are met. -/
structure Sure (ds : List Nat) : Prop where
  t : True
theorem Sure.mk' (ds : List Nat) : Sure ds := ⟨trivial⟩
section
variable {F : FCtx} {E : Env} {L : List Res} {Q : Exit → Act → World → Prop} {ops : Array Oper} {rest : List Oper} {ds : List Nat} {d' : Nat} {op : Op} {ty : TypeId} {pos : String} {after : Array Edge} {j : Nat} {want b : Bool} {d : Nat}
theorem RegS.sure (hm : Sure ds) (hmd : ds.any (Nat.beq d') = true) (hj : (ops[j]?).bind (·.dst) = some d) (he : E.get d = some (Is (.bool b))) (hb : b = want) (h : RegS F ops Q (⟨some d', op, ty, pos, after, none⟩ :: rest) E L) : RegS F ops Q (⟨some d', op, ty, pos, after, some (j, want)⟩ :: rest) E L := by
  have hg : GdOk ops E ⟨some d', op, ty, pos, after, some (j, want)⟩ := .inr ⟨j, want, d, _, _, rfl, hj, he, GuardT.is b want, hb⟩
  rcases h with ⟨T, h1, h2, h3⟩ | ⟨T, L', _, h1, h2, h3⟩
  · have h2' : OpP F.P L E ⟨some d', op, ty, pos, after, some (j, want)⟩ T := h2
    exact .inr ⟨fun _ => T, fun _ => L, hg, h1, OpC.of_P h2', fun _ => h3⟩
  · exact .inr ⟨T, L', hg, h1, h2, h3⟩
theorem RegS.skip (hm : Sure ds) (hmd : ds.any (Nat.beq d') = true) (hd : Nat.blt d' F.N = true) (hj : (ops[j]?).bind (·.dst) = some d) (he : E.get d = some (Is (.bool b))) (hb : b = !want) (h : RegS F ops Q rest ((d', TIf (b = want) (Is (.bool false))) :: E) L) : RegS F ops Q (⟨some d', op, ty, pos, after, some (j, want)⟩ :: rest) E L :=
  .g hd rfl hj he (fun e => by rw [e] at hb; cases want <;> cases hb) h
end
/-! ### calls of function values that turn what is one's own -/
section
variable {P : Program} {L L' : List Res} {E : Env} {dst : Option Tmp} {ty : TypeId} {pos : String} {after : Array Edge} {gd : Option (Nat × Bool)}
theorem oc_callVR {f : FuncId} {A Cs : List Ty} {R : Res} {Li : List Res} {T : Ty} {Lo : List Res} {t : Tmp} {xs : List Operand} {tys : Array TypeId} {is : List Nat} (ht : E.get t = some (TFn f Cs)) (zx : OpdsS E xs A) (hf : CallsC P f (A ++ Cs) (R :: Li) (fun _ => T) (fun _ => Lo)) (zp : PickL L is (R :: Li)) (zd : distinct is = true) (zl : Nat.ble is.length Lo.length = true) (zL : updL L is Lo = L') :
    OpC P L E ⟨dst, .call { callee := .value (.tmp t), args := xs.toArray, argTypes := tys }, ty, pos, after, gd⟩ (fun _ => T) (fun _ => L') := by
  subst zL
  intro a w G S hs ho htt K Q k
  obtain ⟨vs, e, hvs⟩ := htt (.tmp t) (by simp [Op.operands, Call.operands]) _ ht
  have hargs := OpdsS.args (G := G) (a := a) xs A zx (fun x hx' => htt x (by simp [Op.operands, Call.operands, hx']))
  have hrun : (execOp a.eval (⟨dst, .call { callee := .value (.tmp t), args := xs.toArray, argTypes := tys }, ty, pos, after, gd⟩ : Oper)).run P w = .ok (.enter f ((xs.map a.eval) ++ vs).toArray) w := by
    simp [execOp, resolve, Deferred.ofValue, e, invoke, hf.enter]
  simp only [Oper.wp, hrun, Oper.upon_enter]
  refine (hf.calls _ w G _ hs (ho.pick zd zp) (hargs.append hvs)).mono ?_
  rintro e w' ⟨v, G', Sc, rfl, hext, hc, hcs, hT⟩
  obtain ⟨S', h1, h2⟩ := ho.upd zd zp (Z := fun b => ∃ i, ∃ i', is[i]? = some i' ∧ S i' b) (fun b ⟨k, i, h⟩ => ⟨k, i, h⟩) hext (Nat.le_of_ble_eq_true zl) hc (fun i b hb => (hcs i b hb).imp id (fun ⟨k, i, h⟩ => ⟨k, i, h⟩))
  exact k v w' G' S' ⟨hext.sat, hext.le, hext.os, hext.tape, hext.output, hext.size, fun b hb hz => hext.blk b hb (fun ⟨k, i, _, h⟩ => hz ⟨i, h⟩)⟩ h1 h2 hT
end
end Go.Vk
