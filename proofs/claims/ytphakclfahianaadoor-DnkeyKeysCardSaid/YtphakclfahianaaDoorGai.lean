/-
  Arrays of one's own: places of their elements. Nothing here speaks of a program; no conditions.
  Rows of one's own that begin as nothing, grow, and are turned in place. Nothing here speaks of a program; no conditions.
-/
import Derived.Test.YtphakclfahianaaDoorGag
import Derived.Test.YtphakclfahianaaDoorGad
import Derived.Test.YtphakclfahianaaDoorGah
import Derived.Test.YtphakclfahianaaDoorGaf
import Derived.WideKeyArr2
set_option linter.unusedSimpArgs false
set_option linter.unusedVariables false
set_option linter.unusedVariables false
namespace Go.Vk
section
variable {P : Program} {L : List Res} {E : Env} {dst : Option Tmp} {ty : TypeId} {pos : String} {after : Array Edge} {gd : Option (Nat × Bool)} {g : Nat}
theorem run_indexArr {w : World} {t e' : TypeId} {n : Nat} {m : Int} {k : IntKind} (hu : P.underlying t = some (.array n e')) (hsz : P.cellsOf e' = 1) (hinf : (P.info? e').isSome = true) (h : 0 ≤ m ∧ m < (n : Int)) : (Instr.indexAt t (pAt g 0) (.int k m)).run P w = .ok (pAt g m.toNat) w := by
  obtain ⟨inf, hinf⟩ := Option.isSome_iff_exists.1 hinf
  have hs : inf.size = 1 := by simpa [Program.cellsOf, hinf] using hsz
  have e3 : (⟨g, 0, none⟩ : Addr).add m.toNat = ⟨g, m.toNat, none⟩ := by
    unfold Addr.add; split <;> simp_all
  simp [Instr.indexAt, asIntOf, run_underlying hu, h, sizeOf, typeInfo, hinf, hs, e3, pAt, Instr.sureAddr]
theorem op_indexRP {x i : Operand} {t e' e : TypeId} {n : Nat} {m : Int} {k : IntKind} {ts : List Ty} (j : Nat) (hx : Opd E x = some (Is (pAt g 0))) (hL : L[j]? = some (ownP g e ts)) (hu : P.underlying t = some (.array n e')) (hi : Opd E i = some (okI k m)) (hsz : P.cellsOf e' = 1) (hinf : (P.info? e').isSome = true) (h : 0 ≤ m ∧ m < (n : Int)) : OpP P L E ⟨dst, .indexAddr t x i, ty, pos, after, gd⟩ (Is (pAt g m.toNat)) :=
  OpP.same fun a w G S _ _ ho => by
    have e1 : a.eval x = pAt g 0 := ho x (by simp [Op.operands]) _ hx
    have e2 : a.eval i = .int k m := ho i (by simp [Op.operands]) _ hi
    refine ⟨_, ?_, rfl⟩
    simp only [execOp, e1, e2]
    simp [run_indexArr hu hsz hinf h]
theorem op_indexRA {α : Type} {f : α → List Ty} {l : List α} {c : Nat} {x i : Operand} {t e' e : TypeId} {n : Nat} {m : Int} {k : IntKind} (j : Nat) (hx : Opd E x = some (Is (pAt g 0))) (hL : L[j]? = some (ownA g c e 1 f l)) (hu : P.underlying t = some (.array n e')) (hi : Opd E i = some (okI k m)) (hsz : P.cellsOf e' = 1) (hinf : (P.info? e').isSome = true) (h : 0 ≤ m ∧ m < (n : Int)) : OpP P L E ⟨dst, .indexAddr t x i, ty, pos, after, gd⟩ (Is (pEl g 1 m.toNat 0)) :=
  OpP.same fun a w G S _ _ ho => by
    have e1 : a.eval x = pAt g 0 := ho x (by simp [Op.operands]) _ hx
    have e2 : a.eval i = .int k m := ho i (by simp [Op.operands]) _ hi
    refine ⟨_, ?_, rfl⟩
    rw [pEl_def, Nat.mul_one, Nat.add_zero]
    simp only [execOp, e1, e2]
    simp [run_indexArr hu hsz hinf h]
end
/-- A slot is taken for less than it is. -/
theorem OpP.weak {P : Program} {L : List Res} {E : Env} {o : Oper} {T U V : Ty} {t : Nat} (ht : E.get t = some U) (hs : Sub U V) (h : OpP P L ((t, V) :: E) o T) : OpP P L E o T := fun a w G S h1 h2 h3 K Q k => by
  refine h a w G S h1 h2 (fun x hx T' e => ?_) K Q k
  cases x with
  | tmp t' =>
    have e' : Env.get ((t, V) :: E) t' = some T' := e
    simp only [Env.get] at e'
    cases hb : Nat.beq t t' with
    | true =>
      rw [hb] at e'
      cases e'
      have := Nat.eq_of_beq_eq_true hb
      subst this
      exact hs _ _ (h3 _ hx U ht)
    | false =>
      rw [hb] at e'
      exact h3 _ hx T' e'
  | const v => exact h3 _ hx T' e
  | global g => exact h3 _ hx T' e
  | func f => exact h3 _ hx T' e
theorem op_appendXTS {P : Program} {L : List Res} {E : Env} {dst : Option Tmp} {ty : TypeId} {pos : String} {after : Array Edge} {gd : Option (Nat × Bool)} {α : Type} {sz by_ : Nat} {f : α → List Ty} {m : List α} {l : List (List Ty)} {t e : TypeId} {z : Value} {x : Operand} {y : Nat} (hy : E.get y = some (TSl sz f m)) (hx : Opd ((y, TSl sz (fun ts : List Ty => ts) (m.map f)) :: E) x = some (TSlX sz (fun ts : List Ty => ts) l))
    (hu : P.underlying t = some (.slice e)) (hinf : (P.info? e).map (fun i => (i.zero, i.size, i.bytes)) = some (some z, sz, by_)) (hb : Nat.ble by_ 1024 = true) (hl : l.length + m.length ≤ 137438953472) :
    OpP P L E ⟨dst, .call { callee := .builtin .append, args := #[x, .tmp y], argTypes := #[t, t] }, ty, pos, after, gd⟩ (TSl sz (fun ts : List Ty => ts) (l ++ m.map f)) :=
  OpP.weak hy (Sub.unT sz f m) (op_appendXT' hx (by simp [Opd, Env.get]) hu hinf hb (by rw [List.length_map]; exact hl))
/-- A variable as a row of cells that may be turned by number, and back. -/
theorem RSub.rowA {α : Type} {g : Nat} {e : TypeId} {f : α → List Ty} {l : List α} {ts : List Ty} (hf : ∀ a ∈ l, (f a).length = 1) (ht : l.flatMap f = ts) (hc : l.length ≤ maxLen) : RSub (ownP g e ts) (ownA g l.length e 1 f l) := fun S G w h => by
  subst ht
  exact ⟨hf, Nat.le_refl _, hc, [], by rw [List.append_nil, flat_length hf], by rw [List.append_nil]; exact h⟩
theorem RSub.rowP {α : Type} {g : Nat} {e : TypeId} {f : α → List Ty} {l : List α} {ts : List Ty} (ht : l.flatMap f = ts) : RSub (ownA g l.length e 1 f l) (ownP g e ts) := fun S G w h => by
  obtain ⟨h1, h2, h3, rest, h4, h5⟩ := h
  have : rest = [] := by
    rw [List.length_append, flat_length h1] at h4
    exact List.eq_nil_of_length_eq_zero (by omega)
  subst this
  rw [List.append_nil, ht] at h5
  exact h5
theorem HT.rsub {F : FCtx} {E : Env} {L : List Res} {Q : Exit → Act → World → Prop} {c : Code} {R R' : Res} (i : Nat) (hL : L[i]? = some R) (hs : RSub R R') (h : HT F E (L.set i R') c Q) : HT F E L c Q := fun a w G S hi ht =>
  h a w G S ⟨hi.ext, hi.owns.put hL (hs _ _ _ (hi.owns.res i _ hL)), hi.mine⟩ ht
/-! ### keys that are two numbers -/
def pk2 (a b : Int) : Lit := .string (keyBytes [.int .i64 a, .int .i64 b])
theorem wfq {q : IntKind} {a : Int} (h : q.min ≤ a ∧ a ≤ q.max) : (Lit.int q a).wf = true := by simp [Lit.wf, h]
theorem wf64 {a : Int} (h : -9223372036854775808 ≤ a ∧ a ≤ 9223372036854775807) : (Lit.int .i64 a).wf = true := wfq (q := .i64) h
theorem keyOf_two {P : Program} {k e : TypeId} (A : WideMaps.ArrKey P k e 2) (he : P.underlying e = some (.int .i64)) (hsz : ∃ m, P.types.size = m + 1) {a b : Int} (ha : -9223372036854775808 ≤ a ∧ a ≤ 9223372036854775807) (hb : -9223372036854775808 ≤ b ∧ b ≤ 9223372036854775807) : keyOf P k (.agg #[.int .i64 a, .int .i64 b]) = some (pk2 a b) := by
  have hkt := A.keyType hsz
  obtain ⟨m0, hm0⟩ := hsz
  unfold keyOf
  simp only [A.hu]
  rw [if_pos (by simp [hkt, Value.formed, A.hu, A.size]), hm0]
  unfold Program.keyLits
  simp only [A.hu, Value.cells]
  rw [if_pos (by rw [A.size]; rfl)]
  have h0 : List.range 2 = [0, 1] := rfl
  simp [h0, A.one, Program.keyLits, he, wf64 ha, wf64 hb, pk2]
theorem KeyT.two {P : Program} {k e : TypeId} (A : WideMaps.ArrKey P k e 2) (he : P.underlying e = some (.int .i64)) (hsz : ∃ m, P.types.size = m + 1) {a b : Int} (ha : -9223372036854775808 ≤ a ∧ a ≤ 9223372036854775807) (hb : -9223372036854775808 ≤ b ∧ b ≤ 9223372036854775807) : KeyT P k (TAgg [okI .i64 a, okI .i64 b]) (pk2 a b) := fun G v h => by
  obtain ⟨vs, rfl, hl, hk⟩ := h
  match vs, hl with
  | [x, y], _ =>
    have e1 : x = .int .i64 a := (hk 0 _ _ rfl rfl).1
    have e2 : y = .int .i64 b := (hk 1 _ _ rfl rfl).1
    subst e1 e2
    exact keyOf_two A he hsz ha hb
theorem pk2_inj {P : Program} {k e : TypeId} (A : WideMaps.ArrKey P k e 2) (he : P.underlying e = some (.int .i64)) (hsz : ∃ m, P.types.size = m + 1) {a b c d : Int} (ha : -9223372036854775808 ≤ a ∧ a ≤ 9223372036854775807) (hb : -9223372036854775808 ≤ b ∧ b ≤ 9223372036854775807) (hc : -9223372036854775808 ≤ c ∧ c ≤ 9223372036854775807) (hd : -9223372036854775808 ≤ d ∧ d ≤ 9223372036854775807) (h : pk2 a b = pk2 c d) : a = c ∧ b = d := by
  have h1 := keyOf_two A he hsz ha hb
  have h2 := keyOf_two A he hsz hc hd
  rw [h] at h1
  have := A.law.inj h1 h2
  simp at this
  exact this
theorem PickX.emp {L : List Res} {iss : List (List Nat)} {B : List Res} (k : PickX L iss B) : PickX L ([] :: iss) (empR :: B) := ⟨fun _ S G w ho => trivial, k⟩
/-- The block of a map that stands second in a tuple. -/
def sndM : Value → Nat
  | .tuple a => mblk (a.getD 1 undef)
  | _ => 0
theorem sndM_at {T : Ty} {g : Nat} {G : Imm} {v : Value} (h : (TTup [T, Is (mpV g)]).p G v) : sndM v = g := by
  obtain ⟨vs, rfl, hl, hk⟩ := h
  match vs, hl with
  | [a, b], _ =>
    have := hk 1 _ _ rfl rfl
    have e : b = mpV g := this
    subst e
    rfl
/-- What a call hands back whose second answer is a map of one's own. -/
theorem HX.finMap {P : Program} {N : Nat} {fn : Func} {w0 : World} {G0 : Imm} {S0 : Nat → Nat → Prop} {E : Env} {L : List Res} {x : Exit} (he : endB x = true) {T U : Ty} {g n : Nat} {k e : TypeId} {α : Type} {f : α → Ty} {m : Lit → α} {is : List (List Nat)} (hr : ResR P L E fn.results.toList [U, Is (mpV g)]) (hp : PickX L is [ownMp P k e g n f m]) (hd : distinct is.flatten = true) (hT : Sub U T) :
    HX (FC P N w0 G0 S0) E L (bodyPost P fn (RetR w0 G0 S0 (fun v => TTup [T, Is (mpV (sndM v))]) (fun v => [ownMp P k e (sndM v) n f m]))) x :=
  HX.finG is (endB.or he) hr (fun G v h => by
    have h' : (TTup [U, Is (mpV g)]).p G v := h
    have := sndM_at h'
    rw [this]
    exact ⟨Sub.tup1 hT (Sub.refl _) G v h', hp⟩) hd
end Go.Vk
set_option linter.unusedVariables false
namespace Go.Vk
/-- A row of one's own that may be nothing yet. -/
def ownR {α : Type} (v : Value) (e : TypeId) (sz : Nat) (f : α → List Ty) (l : List α) : Res where
  p S G w := (v = .slice none 0 0 ∧ l = [] ∧ ∀ b, ¬ S b) ∨ ∃ g c, v = slAt g l.length c ∧ (ownA g c e sz f l).p S G w
  loc := by
    rintro S G w G' w' (h | ⟨g, c, e1, h⟩) hle hb
    · exact .inl h
    · exact .inr ⟨g, c, e1, (ownA g c e sz f l).loc h hle hb⟩
theorem PickX.nilR {L : List Res} {iss : List (List Nat)} {B : List Res} {α : Type} {sz : Nat} {e : TypeId} {f : α → List Ty} (k : PickX L iss B) : PickX L ([] :: iss) (ownR (.slice Option.none 0 0) e sz f ([] : List α) :: B) :=
  ⟨fun _ S G w ho => .inl ⟨rfl, rfl, fun b ⟨j, hj, _⟩ => by simp at hj⟩, k⟩
theorem PickX.rowA {L : List Res} {iss : List (List Nat)} {B : List Res} {α : Type} {g c n sz : Nat} {e : TypeId} {f : α → List Ty} {l : List α} (i : Nat) (h : L[i]? = some (ownA g c e sz f l)) (hn : n = l.length) (k : PickX L iss B) : PickX L ([i] :: iss) (ownR (slAt g n c) e sz f l :: B) :=
  ⟨fun _ S G w ho => by rw [one_place]; exact .inr ⟨g, c, by rw [hn], ho.res i _ h⟩, k⟩
section
variable {P : Program} {L : List Res} {E : Env} {dst : Option Tmp} {ty : TypeId} {pos : String} {after : Array Edge} {gd : Option (Nat × Bool)} {α : Type} {sz : Nat} {e : TypeId} {f : α → List Ty} {l : List α} {v : Value}
theorem OpP.openR {o : Oper} {T : Ty} {k : Nat} (hL : L[k]? = some (ownR v e sz f l)) (hn : v = .slice none 0 0 → l = [] → OpP P L E o T) (ha : ∀ g c, v = slAt g l.length c → OpP P (L.set k (ownA g c e sz f l)) E o T) : OpP P L E o T := fun a w G S hs ho ht K Q kk => by
  rcases ho.res k _ hL with ⟨h1, h2, _⟩ | ⟨g, c, h1, h2⟩
  · exact hn h1 h2 a w G S hs ho ht K Q kk
  · exact ha g c h1 a w G S hs (ho.put hL h2) ht K Q kk
theorem op_lenR {x : Operand} {t e' : TypeId} (k : Nat) (hx : Opd E x = some (Is v)) (hL : L[k]? = some (ownR v e sz f l)) (hu : P.underlying t = some (.slice e')) : OpP P L E ⟨dst, .call { callee := .builtin .len, args := #[x], argTypes := #[t] }, ty, pos, after, gd⟩ (okI .i64 (l.length : Int)) :=
  .openR hL (fun h1 h2 => by
    subst h1 h2
    exact op_lenNil hx hu) (fun g c h1 => by
    subst h1
    exact op_lenA hx hu)
theorem op_indexR {x i : Operand} {m : Int} {q : IntKind} {t : TypeId} (k : Nat) (hx : Opd E x = some (Is v)) (hL : L[k]? = some (ownR v e sz f l)) (hu : P.underlying t = some (.slice e)) (hi : Opd E i = some (okI q m)) (hsz : P.cellsOf e = sz) (hinf : (P.info? e).isSome = true) (h : 0 ≤ m ∧ m < (l.length : Int)) : OpP P L E ⟨dst, .indexAddr t x i, ty, pos, after, gd⟩ (Is (pEl (sblk v) sz m.toNat 0)) :=
  .openR hL (fun h1 h2 => by
    subst h2
    simp at h
    omega) (fun g c h1 => by
    subst h1
    rw [sblk_at]
    exact op_indexAI hx hi hu hsz hinf h)
theorem op_loadR {x : Operand} {i off : Nat} {a : α} {T : Ty} {t : TypeId} (k : Nat) (hx : Opd E x = some (Is (pEl (sblk v) sz i off))) (hL : L[k]? = some (ownR v e sz f l)) (hag : aggB P t = some false) (ha : l[i]? = some a) (hT : (f a)[off]? = some T) : OpP P L E ⟨dst, .load t x, ty, pos, after, gd⟩ T :=
  .openR hL (fun h1 h2 => by
    subst h2
    simp at ha) (fun g c h1 => by
    subst h1
    rw [sblk_at] at hx
    exact op_loadE k hx (set_at hL) hag ha hT)
theorem op_loadRA {x : Operand} {i : Nat} {a : α} {t : TypeId} (k : Nat) (hx : Opd E x = some (Is (pEl (sblk v) sz i 0))) (hL : L[k]? = some (ownR v e sz f l)) (hag : aggB P t = some true) (hsz : (P.info? t).map (·.size) = some sz) (ha : l[i]? = some a) : OpP P L E ⟨dst, .load t x, ty, pos, after, gd⟩ (TAgg (f a)) :=
  .openR hL (fun h1 h2 => by
    subst h2
    simp at ha) (fun g c h1 => by
    subst h1
    rw [sblk_at] at hx
    exact op_loadEA k hx (set_at hL) hag hsz ha)
theorem oc_storeRA {x y : Operand} {i : Nat} {a' : α} {t : TypeId} {L' : List Res} (k : Nat) (hx : Opd E x = some (Is (pEl (sblk v) sz i 0))) (hL : L[k]? = some (ownR v e sz f l)) (hy : Opd E y = some (TAgg (f a'))) (hsz : (P.info? t).map (·.size) = some sz) (hn : Nat.beq (f a').length sz = true) (hi : i < l.length) (hL' : L.set k (ownR v e sz f (l.set i a')) = L') :
    OpC P L E ⟨dst, .store t x y, ty, pos, after, gd⟩ (fun v => Is v) (fun _ => L') := by
  subst hL'
  intro a w G S hs ho ht K Q kk
  rcases ho.res k _ hL with ⟨_, h2, _⟩ | ⟨g, c, h1, h2⟩
  · subst h2; simp at hi
  · subst h1
    rw [sblk_at] at hx
    refine oc_storeEA (L := L.set k (ownA g c e sz f l)) k hx (set_at hL) hy hsz hn hi rfl a w G S hs (ho.put hL h2) ht K Q fun u w' G' S' hext ho' hs' hu => ?_
    refine kk u w' G' S' hext ?_ hs' hu
    have hget : ((L.set k (ownA g c e sz f l)).set k (ownA g c e sz f (l.set i a')))[k]? = some (ownA g c e sz f (l.set i a')) := set_at (set_at hL)
    have hres := ho'.res k _ hget
    have := ho'.put (R' := ownR (slAt g l.length c) e sz f (l.set i a')) hget (.inr ⟨g, c, by rw [List.length_set], hres⟩)
    simpa using this
/-- A row of one's own is laid into a variable of one's own. -/
theorem oc_storeOR {x y : Operand} {g o : Nat} {e2 : TypeId} {ts ts' : List Ty} {t : TypeId} {L' : List Res} (i k : Nat) (hx : Opd E x = some (Is (pAt g o))) (hL : L[i]? = some (ownP g e2 ts)) (hy : Opd E y = some (Is v)) (hR : L[k]? = some (ownR v e sz f l)) (hsz : (P.info? t).map (·.size) = some 1) (hlt : Nat.blt o ts.length = true) (ht : ts.set o (Is v) = ts') (hL' : L.set i (ownP g e2 ts') = L') :
    OpC P L E ⟨dst, .store t x y, ty, pos, after, gd⟩ (fun v => Is v) (fun _ => L') := by
  intro a w G S hs ho htt K Q kk
  have h1 : v.oneCell' = true := by
    rcases ho.res k _ hR with ⟨h1, _, _⟩ | ⟨g, c, h1, _⟩
    · subst h1; rfl
    · subst h1; rw [slAt_def]; rfl
  exact op_storeO i hx hy (One.is h1) hL hsz hlt ht hL' a w G S hs ho htt K Q kk
theorem run_append_none {w : World} {t : TypeId} (hu : P.underlying t = some (.slice e)) (hinf : (P.info? e).isSome = true) {a b : Option Addr} {n c q : Nat} (hc : n ≤ c) : (Builtin.append_ #[t, t] ty #[.slice a n c, .slice b 0 q]).run P w = .ok (.slice a n c) w := by
  obtain ⟨inf, hi⟩ := Option.isSome_iff_exists.1 hinf
  cases a <;> cases b <;> simp [Builtin.append_, run_underlying hu, sizeOf, typeInfo, hi, Builtin.lenOf, hc, Builtin.firstCells, loadCells, loadCellsFrom, storeCells]
theorem info_some {by_ : Nat} {z : Value} (h : (P.info? e).map (fun i => (i.zero, i.size, i.bytes)) = some (some z, sz, by_)) : (P.info? e).isSome = true := by
  cases hi : P.info? e with
  | none => rw [hi] at h; cases h
  | some i => rfl
/-- The resources at a place and at the end change into one. -/
theorem Owns.last {S : Nat → Nat → Prop} {R R' : Res} {G : Imm} {w : World} {k : Nat} (h : Owns S (L ++ [R]) G w) (hk : k < L.length) (hr : ∀ T G w, R.p T G w → R'.p T G w) : ∃ S', Owns S' (L.set k R') G w ∧ ∀ i b, S' i b → ∃ j, S j b := by
  refine ⟨fun i b => if i = k then S L.length b else (i < L.length ∧ S i b), ⟨fun i b hb => ?_, fun i j b hi hj => ?_, fun i b hb => ?_, fun i r hr' => ?_⟩, fun i b hb => ?_⟩
  · split at hb
    · exact h.bound _ b hb
    · exact h.bound _ b hb.2
  · split at hi <;> split at hj
    · omega
    · have := h.disj _ _ b hi hj.2; omega
    · have := h.disj _ _ b hi.2 hj; omega
    · exact h.disj _ _ b hi.2 hj.2
  · rw [List.length_set]; split at hb
    · omega
    · exact hb.1
  · rw [List.getElem?_set] at hr'
    by_cases hik : k = i
    · subst hik
      rw [if_pos rfl, if_pos hk] at hr'
      cases hr'
      have := h.res L.length R (by simp)
      simp only [if_true]
      exact hr _ _ _ this
    · rw [if_neg hik] at hr'
      have hi := (List.getElem?_eq_some_iff.1 hr').1
      have := h.res i r (by rw [List.getElem?_append_left hi]; exact hr')
      have e1 : (fun b => if i = k then S L.length b else (i < L.length ∧ S i b)) = S i := by
        funext b
        rw [if_neg (fun x => hik x.symm)]
        exact propext ⟨fun x => x.2, fun x => ⟨hi, x⟩⟩
      rw [e1]; exact this
  · dsimp only at hb
    split at hb
    · exact ⟨_, hb⟩
    · exact ⟨_, hb.2⟩
/-- append onto a row of one's own. -/
theorem oc_appendR' {by_ x : Nat} {y : Operand} {m : List α} {t : TypeId} {z : Value} {U : Ty} {L' : Value → List Res} (k : Nat) (hx : E.get x = some (Is v)) (hL : L[k]? = some (ownR v e sz f l)) (hy : Opd E y = some U) (hs : Sub U (TSl sz f m))
    (hu : P.underlying t = some (.slice e)) (hinf : (P.info? e).map (fun i => (i.zero, i.size, i.bytes)) = some (some z, sz, by_)) (hz1 : z.cells.toList.all Value.oneCell' = true) (hzc : z.cells.size = sz) (hb1 : Nat.ble by_ 1024 = true) (hl : l.length + m.length ≤ 137438953472) (hL' : ∀ u, L.set k (ownR u e sz f (l ++ m)) = L' u) :
    OpC P L E ⟨dst, .call { callee := .builtin .append, args := #[.tmp x, y], argTypes := #[t, t] }, ty, pos, after, gd⟩ (fun u => Is u) L' := by
  have hLe : L' = fun u => L.set k (ownR u e sz f (l ++ m)) := by funext u; exact (hL' u).symm
  subst hLe
  have hk : k < L.length := (List.getElem?_eq_some_iff.1 hL).1
  have hinfs := info_some hinf
  intro a w G S hsat ho ht K Q kk
  have hxx : a.eval (.tmp x) = v := ht (.tmp x) (by simp [Op.operands, Call.operands]) _ hx
  have hyy := hs _ _ (ht y (by simp [Op.operands, Call.operands]) _ hy)
  by_cases hm : m = []
  · subst hm
    obtain ⟨ax, capx, ex, -⟩ := hyy
    have hv : ∃ b n c, v = .slice b n c ∧ n ≤ c := by
      rcases ho.res k _ hL with ⟨h1, _, _⟩ | ⟨g, c, h1, h2, h3, _⟩
      · exact ⟨_, _, _, h1, Nat.le_refl _⟩
      · exact ⟨_, _, _, by rw [h1, slAt_def], h3⟩
    obtain ⟨b, n, c, ev, hnc⟩ := hv
    have hr : (execOp a.eval (⟨dst, .call { callee := .builtin .append, args := #[.tmp x, y], argTypes := #[t, t] }, ty, pos, after, gd⟩ : Oper)).run P w = .ok (.value v) w := by
      have := run_append_none (P := P) (w := w) (ty := ty) hu hinfs hnc (a := b) (b := ax) (q := capx)
      simp only [List.length_nil] at ex
      simp only [execOp, resolve]
      simp [invoke, builtin, hxx, ex, ev, this]
    simp only [Oper.wp, hr, Oper.upon_value]
    refine kk v w G S ⟨hsat, Imm.le.refl G, rfl, rfl, rfl, Nat.le_refl _, fun b hb _ => ⟨rfl, fun _ => rfl⟩⟩ ?_ (fun i b hb => .inr ⟨i, hb⟩) rfl
    show Owns S (L.set k (ownR v e sz f (l ++ []))) G w
    rw [List.append_nil, set_self hL]
    exact ho
  · have hml : 0 < m.length := List.length_pos_iff.2 hm
    rcases ho.res k _ hL with ⟨h1, h2, h3⟩ | ⟨g, c, h1, h2⟩
    · subst h1 h2
      have hE : ∀ T, Opd ((x, TSlX sz f ([] : List α)) :: E) y = some T → T.p G (a.eval y) := fun T hT => by
        cases y with
        | tmp t' =>
          have e' : Env.get ((x, TSlX sz f ([] : List α)) :: E) t' = some T := hT
          simp only [Env.get] at e'
          cases hb : Nat.beq x t' with
          | true =>
            have := Nat.eq_of_beq_eq_true hb
            subst this
            rw [hxx] at hyy
            obtain ⟨_, _, ex, _⟩ := hyy
            injection ex with _ h0 _
            omega
          | false =>
            rw [hb] at e'
            exact ht (.tmp t') (by simp [Op.operands, Call.operands]) _ e'
        | const v => exact ht _ (by simp [Op.operands, Call.operands]) _ hT
        | global g => exact ht _ (by simp [Op.operands, Call.operands]) _ hT
        | func f => exact ht _ (by simp [Op.operands, Call.operands]) _ hT
      have hy2 : Opd ((x, TSlX sz f ([] : List α)) :: E) y = some U := by
        cases y with
        | tmp t' =>
          show Env.get ((x, TSlX sz f ([] : List α)) :: E) t' = some U
          simp only [Env.get]
          cases hb : Nat.beq x t' with
          | true =>
            have := Nat.eq_of_beq_eq_true hb
            subst this
            rw [hxx] at hyy
            obtain ⟨_, _, ex, _⟩ := hyy
            injection ex with _ h0 _
            omega
          | false => exact hy
        | const v => exact hy
        | global g => exact hy
        | func f => exact hy
      have hto : TypedO ((x, TSlX sz f ([] : List α)) :: E) G a (⟨dst, .call { callee := .builtin .append, args := #[.tmp x, y], argTypes := #[t, t] }, ty, pos, after, gd⟩ : Oper) := fun q hq T hT => by
        simp [Op.operands, Call.operands] at hq
        rcases hq with rfl | rfl
        · have e' : Env.get ((x, TSlX sz f ([] : List α)) :: E) x = some T := hT
          simp only [Env.get, Nat.beq_refl, cond_true, Option.some.injEq] at e'
          subst e'
          rw [hxx]
          exact nil_sl sz f G
        · exact hE T hT
      refine oc_appendNew (f := f) (f0 := f) (m := m) (by simp [Opd, Env.get]) hy2 hs hu hinf hz1 hzc hb1 ⟨hml, by simp at hl; exact hl⟩ (fun _ => rfl) a w G S hsat ho hto K Q fun u w' G' S' hext ho' hs' hu' => ?_
      obtain ⟨S2, q1, q2⟩ := ho'.last hk (R' := ownR u e sz f ([] ++ m)) (fun T G w hr => .inr ⟨_, _, (by rw [List.nil_append]; exact hu'), by rw [List.nil_append]; exact hr⟩)
      refine kk u w' G' S2 hext q1 (fun i b hb => ?_) rfl
      obtain ⟨j, hj⟩ := q2 i b hb
      exact hs' j b hj
    · subst h1
      refine oc_appendA (x := .tmp x) (L := L.set k (ownA g c e sz f l)) k (set_at hL) hx hy hs hu hinf hz1 hzc hb1 ⟨hml, hl⟩ (fun _ => rfl) a w G S hsat (ho.put hL h2) ht K Q fun u w' G' S' hext ho' hs' hu' => ?_
      refine kk u w' G' S' hext ?_ hs' rfl
      have hget : ((L.set k (ownA g c e sz f l)).set k (ownA (sblk u) (scap u) e sz f (l ++ m)))[k]? = some (ownA (sblk u) (scap u) e sz f (l ++ m)) := set_at (set_at hL)
      have hres := ho'.res k _ hget
      have := ho'.put (R' := ownR u e sz f (l ++ m)) hget (.inr ⟨_, _, hu', hres⟩)
      simpa using this
theorem oc_appendRT {by_ x : Nat} {y : Operand} {m : List α} {tss : List (List Ty)} {t : TypeId} {z : Value} {L' : Value → List Res} (k : Nat) (hx : E.get x = some (Is v)) (hL : L[k]? = some (ownR v e sz f l)) (hy : Opd E y = some (TSlX sz (fun ts : List Ty => ts) tss)) (hm : MapOf f tss m)
    (hu : P.underlying t = some (.slice e)) (hinf : (P.info? e).map (fun i => (i.zero, i.size, i.bytes)) = some (some z, sz, by_)) (hz1 : z.cells.toList.all Value.oneCell' = true) (hzc : z.cells.size = sz) (hb1 : Nat.ble by_ 1024 = true) (hl : l.length + m.length ≤ 137438953472) (hL' : ∀ u, L.set k (ownR u e sz f (l ++ m)) = L' u) :
    OpC P L E ⟨dst, .call { callee := .builtin .append, args := #[.tmp x, y], argTypes := #[t, t] }, ty, pos, after, gd⟩ (fun u => Is u) L' := oc_appendR' k hx hL hy (Sub.slxT hm) hu hinf hz1 hzc hb1 hl hL'
end
/-! ### what is one's own is given away -/
theorem CallsC.freeze {P : Program} {fn : FuncId} {A : List Ty} {Li : List Res} {α : Type} {sz : Nat} {e : TypeId} {f : α → List Ty} {l : List α} (h : CallsC P fn A Li (fun v => Is v) (fun v => [ownR v e sz f l])) : CallsC P fn A Li (fun _ => TSl sz f l) (fun _ => []) :=
  ⟨h.enter, fun vs w G S hs ho ha => (h.calls vs w G S hs ho ha).mono (by
    rintro e' w' ⟨v, G', S', rfl, hext, hown, hs', hv⟩
    rcases hown.res 0 _ rfl with ⟨h1, h2, _⟩ | ⟨g, c, h1, h2⟩
    · subst h1 h2
      exact ⟨_, G', fun _ _ => False, rfl, hext, Owns.none _ _, fun _ _ x => x.elim, TSlX.sl (nil_sl sz f G')⟩
    · subst h1
      have hi : Inv ⟨P, 0, w, G, fun b => ∃ i, S i b⟩ [ownA g c e sz f l] G' w' S' := ⟨hext, hown.put (L := [ownR (slAt g l.length c) e sz f l]) (k := 0) rfl h2, fun i b hb => (hs' i b hb).elim .inr .inl⟩
      obtain ⟨G2, hle, hi2, hT⟩ := hi.give (k := 0) rfl
      exact ⟨_, G2, fun _ _ => False, rfl, hi2.ext, Owns.none _ _, fun _ _ x => x.elim, hT⟩)⟩
section
variable {F : FCtx} {E : Env} {L : List Res} {Q : Exit → Act → World → Prop} {code : Code} {α : Type} {sz : Nat} {e : TypeId} {f : α → List Ty} {l : List α} {v : Value}
theorem HT.openR (k : Nat) (hL : L[k]? = some (ownR v e sz f l)) (hn : v = .slice none 0 0 → l = [] → HT F E (L.set k empR) code Q) (ha : ∀ g c, v = slAt g l.length c → HT F E (L.set k (ownA g c e sz f l)) code Q) : HT F E L code Q := fun a w G S hi ht => by
  rcases hi.owns.res k _ hL with ⟨h1, h2, _⟩ | ⟨g, c, h1, h2⟩
  · exact hn h1 h2 a w G S ⟨hi.ext, hi.owns.put hL trivial, hi.mine⟩ ht
  · exact ha g c h1 a w G S ⟨hi.ext, hi.owns.put hL h2, hi.mine⟩ ht
/-- A row of one's own in a slot is given away. -/
theorem HT.giveR {t : Nat} (k : Nat) (hE : E.get t = some (Is v)) (hL : L[k]? = some (ownR v e sz f l)) (h : HT F ((t, TSl sz f l) :: E) (L.set k empR) code Q) : HT F E L code Q := fun a w G S hi ht => by
  rcases hi.owns.res k _ hL with ⟨h1, h2, _⟩ | ⟨g, c, h1, h2⟩
  · subst h1 h2
    refine h a w G S ⟨hi.ext, hi.owns.put hL trivial, hi.mine⟩ ⟨ht.size, ht.defers, fun t' T' e' => ?_⟩
    simp only [Env.get] at e'
    cases hb : Nat.beq t t' with
    | false => rw [hb] at e'; exact ht.get t' T' e'
    | true =>
      rw [hb] at e'
      cases e'
      have := Nat.eq_of_beq_eq_true hb
      subst this
      have hv : a.tmps.getD t undef = .slice none 0 0 := ht.get t _ hE
      rw [hv]
      exact TSlX.sl (nil_sl sz f G)
  · subst h1
    have h3 : HT F E (L.set k (ownA g c e sz f l)) code Q := HT.give (t := t) k hE (set_at hL) rfl (by simpa using h)
    exact h3 a w G S ⟨hi.ext, hi.owns.put hL h2, hi.mine⟩ ht
/-- The same, of a slice that lies in a variable of one's own. -/
theorem HT.giveRP {g2 j : Nat} {e2 : TypeId} {ts : List Ty} (k k2 : Nat) (hL : L[k]? = some (ownR v e sz f l)) (hL2 : L[k2]? = some (ownP g2 e2 ts)) (hj : ts[j]? = some (Is v)) (hne : Nat.beq k k2 = false) (h : HT F E ((L.set k empR).set k2 (ownP g2 e2 (ts.set j (TSl sz f l)))) code Q) : HT F E L code Q := fun a w G S hi ht => by
  have hne' : k ≠ k2 := fun x => by rw [x, Nat.beq_refl] at hne; cases hne
  rcases hi.owns.res k _ hL with ⟨h1, h2, _⟩ | ⟨g, c, h1, h2⟩
  · subst h1 h2
    have ho1 := hi.owns.put (R' := empR) hL trivial
    have hL2' : (L.set k empR)[k2]? = some (ownP g2 e2 ts) := by rw [List.getElem?_set, if_neg hne']; exact hL2
    obtain ⟨q1, ⟨cs, q2, q3, q4⟩, q5⟩ := ho1.res k2 _ hL2'
    refine h a w G S ⟨hi.ext, ho1.put hL2' ⟨q1, ⟨cs, q2, by simpa using q3, fun i T hT' => ?_⟩, q5⟩, hi.mine⟩ ht
    rw [List.getElem?_set] at hT'
    by_cases hij : j = i
    · subst hij
      have hjl := (List.getElem?_eq_some_iff.1 hj).1
      rw [if_pos rfl, if_pos hjl] at hT'
      cases hT'
      obtain ⟨u, a1, a2, a3⟩ := q4 j _ hj
      refine ⟨u, a1, ?_, a3⟩
      have hu : u = .slice none 0 0 := a2
      rw [hu]
      exact TSlX.sl (nil_sl sz f G)
    · rw [if_neg hij] at hT'
      exact q4 i T hT'
  · subst h1
    have hL2' : (L.set k (ownA g c e sz f l))[k2]? = some (ownP g2 e2 ts) := by rw [List.getElem?_set, if_neg hne']; exact hL2
    have h3 : HT F E (L.set k (ownA g c e sz f l)) code Q := HT.giveP k k2 (set_at hL) hL2' hj rfl hne (by simpa using h)
    exact h3 a w G S ⟨hi.ext, hi.owns.put hL h2, hi.mine⟩ ht
end
/-- A row of one's own is handed back. -/
theorem HX.finR {P : Program} {N : Nat} {fn : Func} {w0 : World} {G0 : Imm} {S0 : Nat → Nat → Prop} {E : Env} {L : List Res} {x : Exit} (he : endB x = true) {α : Type} {sz : Nat} {e : TypeId} {f : α → List Ty} {l : List α} {u : Value} {is : List (List Nat)} (hr : ResR P L E fn.results.toList [Is u]) (hp : PickX L is [ownR u e sz f l]) (hd : distinct is.flatten = true) :
    HX (FC P N w0 G0 S0) E L (bodyPost P fn (RetR w0 G0 S0 (fun v => Is v) (fun v => [ownR v e sz f l]))) x :=
  HX.finP is (endB.or he) hr hd hp (fun _ _ h => h)
/-- A call that hands back a row of one's own. -/
theorem oc_callRow {P : Program} {L : List Res} {E : Env} {dst : Option Tmp} {ty : TypeId} {pos : String} {after : Array Edge} {gd : Option (Nat × Bool)} {α : Type} {fn : FuncId} {A : List Ty} {sz : Nat} {e : TypeId} {f : α → List Ty} {l : List α} {xs : List Operand} {tys : Array TypeId} {L' : Value → List Res} (hf : CallsC P fn A [] (fun v => Is v) (fun v => [ownR v e sz f l])) (zx : OpdsS E xs A) (zL : ∀ v, L ++ [ownR v e sz f l] = L' v) :
    OpC P L E ⟨dst, .call { callee := .value (.func fn), args := xs.toArray, argTypes := tys }, ty, pos, after, gd⟩ (fun v => Is v) L' := by
  have := op_callR (P := P) (L := L) (E := E) (dst := dst) (ty := ty) (pos := pos) (after := after) (gd := gd) (tys := tys) (is := []) hf zx PickL.nil rfl (fun _ => Nat.zero_le _)
  simpa only [updL, zL] using this
section
variable {P : Program} {L : List Res} {E : Env} {dst : Option Tmp} {ty : TypeId} {pos : String} {after : Array Edge} {gd : Option (Nat × Bool)}
theorem op_shr1u {x : Operand} {m : Int} {xt yt : TypeId} (hx : Opd E x = some (okI .u64 m)) : OpP P L E ⟨dst, .binOp .shr xt x (.const (.int .u64 1)) yt, ty, pos, after, gd⟩ (okI .u64 (m / 2)) :=
  op_shr (n := 1) hx rfl (by decide)
end
end Go.Vk
