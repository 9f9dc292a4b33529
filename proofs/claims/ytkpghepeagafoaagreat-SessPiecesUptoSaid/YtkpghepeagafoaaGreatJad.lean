/-
  More rules for single operations: bytes' bits, slices' bounds, nil, strings. Nothing here speaks of a program; no conditions.
-/
import Derived.Test.YtkpghepeagafoaaGreatJac
set_option linter.unusedSimpArgs false
set_option linter.unusedVariables false
set_option linter.unusedVariables false
namespace Go.Vk

/-! ### bits -/
theorem bv8 (c : UInt8) : BitVec.ofInt 8 (c.toNat : Int) = c.toBitVec := by
  apply BitVec.eq_of_toNat_eq
  rw [BitVec.toNat_ofInt]
  have : c.toNat < 256 := c.toNat_lt
  show ((c.toNat : Int) % (2 ^ 8 : Nat)).toNat = c.toNat
  omega
theorem b8_of {n : Int} (h : 0 ≤ n ∧ n < 256) : ((b8 n).toNat : Int) = n := by rw [b8_toNat]; omega
theorem wrap8_nat (n : Nat) (h : n < 256) : IntKind.u8.wrap (n : Int) = n := by rw [IntKind.wrap_u8]; omega
theorem and8 (c : UInt8) {n : Int} (h : 0 ≤ n ∧ n < 256) : bitsOf .and .u8 (c.toNat : Int) n = ((c &&& b8 n).toNat : Int) := by
  rw [← b8_of h]
  show IntKind.u8.wrap ((BitVec.ofInt 8 (c.toNat : Int) &&& BitVec.ofInt 8 ((b8 n).toNat : Int)).toNat : Int) = _
  rw [bv8, bv8, wrap8_nat _ (BitVec.isLt _), b8_of h]; rfl
theorem or8 (c : UInt8) {n : Int} (h : 0 ≤ n ∧ n < 256) : bitsOf .or .u8 (c.toNat : Int) n = ((c ||| b8 n).toNat : Int) := by
  rw [← b8_of h]
  show IntKind.u8.wrap ((BitVec.ofInt 8 (c.toNat : Int) ||| BitVec.ofInt 8 ((b8 n).toNat : Int)).toNat : Int) = _
  rw [bv8, bv8, wrap8_nat _ (BitVec.isLt _), b8_of h]; rfl
theorem andn8 (c : UInt8) {n : Int} (h : 0 ≤ n ∧ n < 256) : bitsOf .andNot .u8 (c.toNat : Int) n = ((c &&& ~~~ (b8 n)).toNat : Int) := by
  rw [← b8_of h]
  show IntKind.u8.wrap ((BitVec.ofInt 8 (c.toNat : Int) &&& ~~~ BitVec.ofInt 8 ((b8 n).toNat : Int)).toNat : Int) = _
  rw [bv8, bv8, wrap8_nat _ (BitVec.isLt _), b8_of h]; rfl

/-- A number shifted by eight, and a byte. -/
theorem or_low {m c : Int} (hc : 0 ≤ c ∧ c < 256) (hm : InK .i64 (m * 256 + c)) : bitsOf .or .i64 (m * 256) c = m * 256 + c := by
  have e : ((BitVec.ofInt 64 (m * 256) ||| BitVec.ofInt 64 c).toNat : Int) = (m * 256 + c) % 18446744073709551616 := by
    rw [BitVec.toNat_or, BitVec.toNat_ofInt, BitVec.toNat_ofInt]
    have h1 : (c % ((2 ^ 64 : Nat) : Int)).toNat = c.toNat := by omega
    have h2 : ((m * 256) % ((2 ^ 64 : Nat) : Int)).toNat = 2 ^ 8 * (m % 72057594037927936).toNat := by omega
    rw [h1, h2, ← Nat.two_pow_add_eq_or_of_lt (by omega)]
    omega
  show IntKind.i64.wrap ((BitVec.ofInt 64 (m * 256) ||| BitVec.ofInt 64 c).toNat : Int) = _
  rw [e]
  have hm' : IntKind.i64.wrap (m * 256 + c) = m * 256 + c := hm
  rw [IntKind.wrap_i64] at hm' ⊢
  omega

section
variable {P : Program} {L : List Res} {E : Env} {dst : Option Tmp} {ty : TypeId} {pos : String} {after : Array Edge} {gd : Option (Nat × Bool)}
section
variable {x y : Operand} {c : UInt8} {n : Int} {xt yt : TypeId}
theorem op_and8 (hx : Opd E x = some (okI .u8 (c.toNat : Int))) (hy : Opd E y = some (okI .u8 n)) (h : 0 ≤ n ∧ n < 256) : OpP P L E ⟨dst, .binOp .and xt x y yt, ty, pos, after, gd⟩ (okI .u8 ((c &&& b8 n).toNat : Int)) := by
  rw [← and8 c h]; exact op_andb hx hy
theorem op_or8 (hx : Opd E x = some (okI .u8 (c.toNat : Int))) (hy : Opd E y = some (okI .u8 n)) (h : 0 ≤ n ∧ n < 256) : OpP P L E ⟨dst, .binOp .or xt x y yt, ty, pos, after, gd⟩ (okI .u8 ((c ||| b8 n).toNat : Int)) := by
  rw [← or8 c h]; exact op_orb hx hy
theorem op_andn8 (hx : Opd E x = some (okI .u8 (c.toNat : Int))) (hy : Opd E y = some (okI .u8 n)) (h : 0 ≤ n ∧ n < 256) : OpP P L E ⟨dst, .binOp .andNot xt x y yt, ty, pos, after, gd⟩ (okI .u8 ((c &&& ~~~ (b8 n)).toNat : Int)) := by
  rw [← andn8 c h]; exact op_andn hx hy
end
theorem op_shl8 {x : Operand} {m : Int} {xt yt : TypeId} (hx : Opd E x = some (okI .i64 m)) (h : InK .i64 (m * 256)) : OpP P L E ⟨dst, .binOp .shl xt x (.const (.int .u64 8)) yt, ty, pos, after, gd⟩ (okI .i64 (m * 256)) :=
  op_shl (n := 8) hx rfl (by decide) h
theorem op_shr8 {x : Operand} {m : Int} {xt yt : TypeId} (hx : Opd E x = some (okI .i64 m)) : OpP P L E ⟨dst, .binOp .shr xt x (.const (.int .u64 8)) yt, ty, pos, after, gd⟩ (okI .i64 (m / 256)) :=
  op_shr (n := 8) hx rfl (by decide)
theorem op_orlow {x y : Operand} {m c : Int} {xt yt : TypeId} (hx : Opd E x = some (okI .i64 (m * 256))) (hy : Opd E y = some (okI .i64 c)) (hc : 0 ≤ c ∧ c < 256) (h : InK .i64 (m * 256 + c)) : OpP P L E ⟨dst, .binOp .or xt x y yt, ty, pos, after, gd⟩ (okI .i64 (m * 256 + c)) := by
  rw [← or_low hc h]; exact op_orb hx hy

section
variable {x : Operand} {α : Type} {sz : Nat} {f : α → List Ty} {l : List α} {t e : TypeId} {m n : Int} {k k' : IntKind} {o o' : Operand}
theorem op_slice2 (hx : Opd E x = some (TSl sz f l)) (hu : P.underlying t = some (.slice e)) (hsz : ∀ w, (sizeOf e).run P w = .ok sz w) (hlo : Opd E o = some (okI k m)) (hhi : Opd E o' = some (okI k' n)) (h : 0 ≤ m ∧ m ≤ n ∧ n ≤ (l.length : Int)) :
    OpP P L E ⟨dst, .slice t x (some o) (some o') none, ty, pos, after, gd⟩ (TSl sz f ((l.take n.toNat).drop m.toNat)) :=
  op_slice hx hu hsz (.inr ⟨o, k, rfl, hlo⟩) (.inr ⟨o', k', rfl, hhi⟩) h.1 h.2.1 h.2.2
theorem op_sliceL (hx : Opd E x = some (TSl sz f l)) (hu : P.underlying t = some (.slice e)) (hsz : ∀ w, (sizeOf e).run P w = .ok sz w) (hlo : Opd E o = some (okI k m)) (h : 0 ≤ m ∧ m ≤ (l.length : Int)) :
    OpP P L E ⟨dst, .slice t x (some o) none none, ty, pos, after, gd⟩ (TSl sz f (l.drop m.toNat)) := by
  have := op_slice (P := P) (L := L) (dst := dst) (ty := ty) (pos := pos) (after := after) (gd := gd) (hi := none) (n := (l.length : Int)) hx hu hsz (.inr ⟨o, k, rfl, hlo⟩) (.inl ⟨rfl, rfl⟩) h.1 h.2 (Int.le_refl _)
  simpa using this
theorem op_sliceH (hx : Opd E x = some (TSl sz f l)) (hu : P.underlying t = some (.slice e)) (hsz : ∀ w, (sizeOf e).run P w = .ok sz w) (hhi : Opd E o' = some (okI k' n)) (h : 0 ≤ n ∧ n ≤ (l.length : Int)) :
    OpP P L E ⟨dst, .slice t x none (some o') none, ty, pos, after, gd⟩ (TSl sz f (l.take n.toNat)) := by
  have := op_slice (P := P) (L := L) (dst := dst) (ty := ty) (pos := pos) (after := after) (gd := gd) (lo := none) (m := 0) hx hu hsz (.inl ⟨rfl, rfl⟩) (.inr ⟨o', k', rfl, hhi⟩) (Int.le_refl _) h.1 h.2
  simpa using this
theorem run_eq_nil (w : World) {a : Option Addr} {n c : Nat} (hu : P.underlying t = some (.slice e)) : (Op.equal t (.slice a n c) (.slice none 0 0)).run P w = .ok a.isNone w := by
  have h : ∀ d, (Op.equalIn (d + 1) t (.slice a n c) (.slice none 0 0)).run P w = .ok a.isNone w := fun d => by cases a <;> simp [Op.equalIn, run_underlying hu]
  exact h 9999
/-- x == nil: of whether a slice is nil its elements do not tell. -/
def TNil {α : Type} (l : List α) : Ty := ⟨fun _ v => ∃ b : Bool, v = .bool b ∧ (b = true → l = []), fun _ h => h⟩
theorem op_eqnil {xt yt : TypeId} (hx : Opd E x = some (TSl sz f l)) (hu : P.underlying xt = some (.slice e)) : OpP P L E ⟨dst, .binOp .eql xt x (.const (.slice none 0 0)) yt, ty, pos, after, gd⟩ (TNil l) :=
  OpP.same fun a w G S _ _ ho => by
    obtain ⟨ad, cap, e1, hlc, hcm, _, hnil, had⟩ := ho x (by simp [Op.operands]) _ hx
    refine ⟨.bool ad.isNone, ?_, ad.isNone, rfl, ?_⟩
    · simp only [execOp, e1]
      simp [eqGuard, binOp, run_eq_nil w hu, Act.eval]
    · intro h
      cases ad with
      | none => have := hnil rfl; exact List.eq_nil_of_length_eq_zero (by omega)
      | some ad => simp at h
end
end
/-- A test whose outcome is not told. -/
theorem HT.condNil {F : FCtx} {E : Env} {L : List Res} {Q : Exit → Act → World → Prop} {c : Operand} {x y : Code} {α : Type} {l : List α} (hc : Opd E c = some (TNil l)) (hx : l = [] → HT F E L x Q) (hy : HT F E L y Q) : HT F E L (.cond c x y) Q := fun a w G S hi ht => by
  obtain ⟨b, hb, h⟩ := ht.opd c hc
  exact wp_cond_split (t := b) hb (fun e => hx (h e) a w G S hi ht) (fun _ => hy a w G S hi ht)

theorem freeze_one (w : World) (g o : Nat) (cs : Array Value) (e : TypeId) (fr : Nat × Nat) (h : w.heap[g]? = some (.cells cs e fr)) : ∃ fr', (w.freeze ⟨g, o, none⟩ 1).heap[g]? = some (.cells cs e fr') := by
  have hlt : g < w.heap.size := (Array.getElem?_eq_some_iff.1 h).1
  have hv : w.heap[g] = .cells cs e fr := (Array.getElem?_eq_some_iff.1 h).2
  obtain ⟨lo, hi⟩ := fr
  refine ⟨if lo == hi then (o, o + 1) else (min lo o, max hi (o + 1)), ?_⟩
  simp only [World.freeze, if_neg (show ¬ (1 = 0) by decide)]
  rw [Array.getElem?_eq_getElem (by simpa using hlt), Array.getElem_modify]
  simp [hv]
section
variable {P : Program} {L : List Res} {E : Env} {dst : Option Tmp} {ty : TypeId} {pos : String} {after : Array Edge} {gd : Option (Nat × Bool)}
/-- A literal that a string may share: it is nobody's any more. -/
theorem op_mark {x : Operand} {t e : TypeId} {l : List UInt8} {v : Value} (i : Nat) (hx : Opd E x = some (TAnd (Is v) (TBytes l))) (hL : L[i]? = some (ownSl v 1 e)) (hu : P.underlying t = some (.slice e)) (he : P.underlying e = some (.int .u8)) (hl : 0 < l.length) :
    OpC P L E ⟨dst, .convert t t x, ty, pos, after, gd⟩ (fun _ => TBytes l) (fun _ => L.set i empR) := by
  intro a w G S hs ho ht K Q k
  have hxx := ht x (by simp [Op.operands]) _ hx
  have hxv : a.eval x = v := hxx.1
  have hsl : (TBytes l).p G (a.eval x) := hxx.2
  have hiL : i < L.length := (List.getElem?_eq_some_iff.1 hL).1
  rcases ho.res i _ hL with ⟨h1, _⟩ | ⟨g, n, cap, cs, h1, h2, h3, h4, h5, h6, h7⟩
  · obtain ⟨ad, c, e1, _⟩ := hsl
    rw [hxv, h1] at e1
    simp at e1; omega
  · have hr : (execOp a.eval (⟨dst, .convert t t x, ty, pos, after, gd⟩ : Oper)).run P w = .ok (.value v) (w.freeze ⟨g, cs.size, none⟩ 1) := by
      simp only [execOp, hxv]
      rw [h1]
      simp [convert, run_underlying hu, run_underlying he, markStringish, World.shape?, h3]
    simp only [Oper.wp, hr, Oper.upon_value]
    obtain ⟨fr', hf⟩ := freeze_one w g cs.size cs e (0, 0) h3
    have hoth : ∀ b, b ≠ g → (w.freeze ⟨g, cs.size, none⟩ 1).heap[b]? = w.heap[b]? := fun b hb => by
      simp only [World.freeze, if_neg (show ¬ (1 = 0) by decide), Array.getElem?_modify]
      rw [if_neg (fun e => hb e.symm)]
    have hsat : Sat G (w.freeze ⟨g, cs.size, none⟩ 1) := by
      intro b o u hb
      have := hs b o u hb
      by_cases hbg : b = g
      · subst hbg
        simp only [World.cell?, h3, hf] at this ⊢
        exact this
      · simp only [World.cell?] at this ⊢
        rw [hoth b hbg]; exact this
    have hext : Ext (fun b => b = g) G w G (w.freeze ⟨g, cs.size, none⟩ 1) := ⟨hsat, Imm.le.refl G, by simp [World.freeze], by simp [World.freeze], by simp [World.freeze], by simp [World.freeze], fun b _ hb => ⟨hoth b hb, fun _ => rfl⟩⟩
    have hSg : S i g := (h2 g).2 rfl
    refine k v _ G _ ⟨hext.sat, hext.le, hext.os, hext.tape, hext.output, hext.size, fun b hb hz => hext.blk b hb (fun e => hz ⟨i, by rw [e]; exact hSg⟩)⟩ (ho.set hext hiL (fun b e => by rw [e]; exact hSg) empR (fun _ => False) (fun _ z => z.elim) trivial) ?_ (by rw [← hxv]; exact hsl)
    intro j b hb
    by_cases hj : j = i
    · simp [hj] at hb
    · simp only [hj, if_false] at hb; exact .inr ⟨j, hb⟩
end
section
variable {P : Program} {L : List Res} {E : Env} {dst : Option Tmp} {ty : TypeId} {pos : String} {after : Array Edge} {gd : Option (Nat × Bool)} {t e : TypeId}
/-- What a []byte's elements are. -/
abbrev ByteEl (P : Program) (e : TypeId) : Prop := (P.info? e).map (fun i => (i.zero, i.size, i.bytes)) = some (some (.int .u8 0), 1, 1)
theorem op_litB0 {parts : Array (Nat × Operand)} (hp : partsOf parts = []) (hu : P.underlying t = some (.slice e)) (hi : ByteEl P e) : OpP P L E ⟨dst, .buildSlice t 0 parts, ty, pos, after, gd⟩ (TSlX 1 cB []) :=
  op_lit cB [] (by have : parts.toList = [] := by simpa [partsOf] using hp
                   simp [partsOk, this]) (by rw [hp]; trivial) rfl (by simp) hu hi (by decide) (by decide)
theorem op_litB1 {x : Operand} {c : UInt8} (hx : Opd E x = some (okI .u8 (c.toNat : Int))) (hu : P.underlying t = some (.slice e)) (hi : ByteEl P e) : OpP P L E ⟨dst, .buildSlice t 1 #[(0, x)], ty, pos, after, gd⟩ (TSlX 1 cB [c]) :=
  op_lit cB [c] rfl ⟨⟨_, hx, CellsOf.byte c⟩, trivial⟩ rfl (by simp [cB]) hu hi (by decide) (by decide)
theorem op_litB1c {x : Operand} {m : Int} (hx : Opd E x = some (okI .u8 m)) (hm : 0 ≤ m ∧ m < 256) (hu : P.underlying t = some (.slice e)) (hi : ByteEl P e) : OpP P L E ⟨dst, .buildSlice t 1 #[(0, x)], ty, pos, after, gd⟩ (TSlX 1 cB [b8 m]) :=
  op_lit cB [b8 m] rfl ⟨⟨_, hx, CellsOf.b8 hm⟩, trivial⟩ rfl (by simp [cB]) hu hi (by decide) (by decide)
theorem op_litB1O {x : Operand} {c : UInt8} (hx : Opd E x = some (okI .u8 (c.toNat : Int))) (hu : P.underlying t = some (.slice e)) (hi : ByteEl P e) : OpC P L E ⟨dst, .buildSlice t 1 #[(0, x)], ty, pos, after, gd⟩ (fun v => TAnd (Is v) (TBytes [c])) (fun v => L ++ [ownSl v 1 e]) :=
  op_litO cB [c] rfl ⟨⟨_, hx, CellsOf.byte c⟩, trivial⟩ rfl (by simp [cB]) hu hi (by decide) (by decide)
theorem op_litB1cO {x : Operand} {m : Int} (hx : Opd E x = some (okI .u8 m)) (hm : 0 ≤ m ∧ m < 256) (hu : P.underlying t = some (.slice e)) (hi : ByteEl P e) : OpC P L E ⟨dst, .buildSlice t 1 #[(0, x)], ty, pos, after, gd⟩ (fun v => TAnd (Is v) (TBytes [b8 m])) (fun v => L ++ [ownSl v 1 e]) :=
  op_litO cB [b8 m] rfl ⟨⟨_, hx, CellsOf.b8 hm⟩, trivial⟩ rfl (by simp [cB]) hu hi (by decide) (by decide)
/-- What a [][]byte's elements are. -/
abbrev SlEl (P : Program) (e : TypeId) : Prop := (P.info? e).map (fun i => (i.zero, i.size, i.bytes)) = some (some (.slice none 0 0), 1, 24)
theorem op_litLs {n : Nat} (ls : List (List UInt8)) {parts : Array (Nat × Operand)} (hp : partsOk parts n = true) (hx : LitOk E (cL 1 cB) (partsOf parts) ls) (hn : n = ls.length) (hu : P.underlying t = some (.slice e)) (hi : SlEl P e) (hb : n ≤ 100) : OpP P L E ⟨dst, .buildSlice t n parts, ty, pos, after, gd⟩ (TSlX 1 (cL 1 cB) ls) :=
  op_lit (cL 1 cB) ls hp hx hn (by simp [cL]) hu hi (by omega) (by simp only [maxLen]; omega)
theorem op_litB0O {parts : Array (Nat × Operand)} (hp : partsOf parts = []) (hu : P.underlying t = some (.slice e)) (hi : ByteEl P e) : OpC P L E ⟨dst, .buildSlice t 0 parts, ty, pos, after, gd⟩ (fun v => TAnd (Is v) (TBytes [])) (fun v => L ++ [ownSl v 1 e]) :=
  op_litO cB [] (by have : parts.toList = [] := by simpa [partsOf] using hp
                    simp [partsOk, this]) (by rw [hp]; trivial) rfl (by simp) hu hi (by decide) (by decide)
variable {x y : Operand} {l m : List UInt8}
theorem op_appendXB (hx : Opd E x = some (TSlX 1 cB l)) (hy : Opd E y = some (TBytes m)) (hu : P.underlying t = some (.slice e)) (hi : ByteEl P e) (hb : l.length + m.length ≤ 140737488355328) :
    OpP P L E ⟨dst, .call { callee := .builtin .append, args := #[x, y], argTypes := #[t, t] }, ty, pos, after, gd⟩ (TBytes (l ++ m)) :=
  op_appendX hx hy hu hi (by omega) (by simp only [maxLen]; omega)
theorem op_appendB {v : Value} (i : Nat) (hx : Opd E x = some (TAnd (Is v) (TBytes l))) (hy : Opd E y = some (TBytes m)) (hL : L[i]? = some (ownSl v 1 e)) (hu : P.underlying t = some (.slice e)) (hi : ByteEl P e) (hb : l.length + m.length ≤ 140737488355328) :
    OpC P L E ⟨dst, .call { callee := .builtin .append, args := #[x, y], argTypes := #[t, t] }, ty, pos, after, gd⟩ (fun v' => TAnd (Is v') (TBytes (l ++ m))) (fun v' => L.set i (ownSl v' 1 e)) :=
  op_append i hx hy hL hu hi rfl (by omega) (by simp only [maxLen]; omega)
end
/-! ### loops -/
def Env.keep (E : Env) : List Nat → Env
  | [] => []
  | t :: ks => match E.get t with
    | some T => (t, T) :: Env.keep E ks
    | none => Env.keep E ks
theorem SubE.done {E : Env} : SubE E [] := trivial
theorem SubE.append {E : Env} : ∀ {A B : Env}, SubE E A → SubE E B → SubE E (A ++ B)
  | [], _, _, h => h
  | _ :: _, _, h, k => ⟨h.1, SubE.append h.2 k⟩
theorem SubE.keep (E : Env) : ∀ ks, SubE E (E.keep ks)
  | [] => trivial
  | t :: ks => by
    unfold Env.keep
    cases h : E.get t with
    | none => exact SubE.keep E ks
    | some T => exact ⟨⟨T, h, Sub.refl T⟩, SubE.keep E ks⟩
/-- A round of the loop is done. -/
def RoundK {σ : Type} (F : FCtx) (E : Env) (ks : List Nat) (upd : σ → Env) (L' : σ → List Res) (I : σ → Prop) (μ : σ → Nat) (s : σ) (a : Act) (w : World) : Prop :=
  ∃ s' G S, (I s' ∧ μ s' < μ s) ∧ Inv F (L' s') G w S ∧ Typed F.N (upd s' ++ E.keep ks) G a
theorem HT.loopK {F : FCtx} {E : Env} {L : List Res} {Q : Exit → Act → World → Prop} {c : Code} {σ : Type} (ks : List Nat) (upd : σ → Env) (L' : σ → List Res) (I : σ → Prop) (μ : σ → Nat) (s0 : σ) (hI : I s0) (hL : L' s0 = L) (hu : SubE E (upd s0))
    (body : ∀ s, I s → HT F (upd s ++ E.keep ks) (L' s) c (Exit.then (RoundK F E ks upd L' I μ s) Q)) : HT F E L (.loop c) Q :=
  HT.loop (fun s => upd s ++ E.keep ks) L' I μ (HX.atLoop (Q := Q) s0 hI (hu.append (SubE.keep E ks)) hL) body
theorem HX.roundK {F : FCtx} {E E2 : Env} {L2 : List Res} {Q : Exit → Act → World → Prop} {σ : Type} {ks : List Nat} {upd : σ → Env} {L' : σ → List Res} {I : σ → Prop} {μ : σ → Nat} {s : σ} (s' : σ) (hI : I s' ∧ μ s' < μ s) (hk : E2.keep ks = E.keep ks) (hL : L' s' = L2) (hu : SubE E2 (upd s')) : HX F E2 L2 (Exit.then (RoundK F E ks upd L' I μ s) Q) .normal :=
  fun a w G S hi ht => ⟨s', G, S, hI, by rw [hL]; exact hi, ht.sub (hu.append (by rw [← hk]; exact SubE.keep E2 ks))⟩
/-- The ways meet again; of what stood before ks stays. -/
def MidK {σ : Type} (F : FCtx) (E : Env) (ks : List Nat) (upd : σ → Env) (L' : σ → List Res) (I : σ → Prop) (a : Act) (w : World) : Prop :=
  ∃ s G S, I s ∧ Inv F (L' s) G w S ∧ Typed F.N (upd s ++ E.keep ks) G a
theorem HT.seqK {F : FCtx} {E : Env} {L : List Res} {Q : Exit → Act → World → Prop} {x y : Code} {σ : Type} (ks : List Nat) (upd : σ → Env) (L' : σ → List Res) (I : σ → Prop)
    (h : HT F E L x (Exit.then (MidK F E ks upd L' I) Q)) (k : ∀ s, I s → HT F (upd s ++ E.keep ks) (L' s) y Q) : HT F E L (.seq x y) Q := HT.seqMid (fun s => upd s ++ E.keep ks) L' I h k
theorem HX.midK {F : FCtx} {E E2 : Env} {L2 : List Res} {Q : Exit → Act → World → Prop} {σ : Type} {ks : List Nat} {upd : σ → Env} {L' : σ → List Res} {I : σ → Prop} (s' : σ) (hI : I s') (hk : E2.keep ks = E.keep ks) (hL : L' s' = L2) (hu : SubE E2 (upd s')) : HX F E2 L2 (Exit.then (MidK F E ks upd L' I) Q) .normal :=
  fun a w G S hi ht => ⟨s', G, S, hI, by rw [hL]; exact hi, ht.sub (hu.append (by rw [← hk]; exact SubE.keep E2 ks))⟩

section
variable {P : Program} {L : List Res} {E : Env} {dst : Option Tmp} {ty : TypeId} {pos : String} {after : Array Edge} {gd : Option (Nat × Bool)} {x : Operand} {c : UInt8} {st dt : TypeId} {ds : TypeDesc}
theorem op_conv8 {k' : IntKind} (hx : Opd E x = some (okI .u8 (c.toNat : Int))) (hs : P.underlying st = some ds) (hd : P.underlying dt = some (.int k')) (hk : k' = .i64 ∨ k' = .u64 ∨ k' = .u32) : OpP P L E ⟨dst, .convert st dt x, ty, pos, after, gd⟩ (okI k' (c.toNat : Int)) :=
  op_conv hx hs hd (by
    have := c.toNat_lt
    rcases hk with rfl | rfl | rfl
    · exact InK.i64 (by omega)
    · exact InK.u64 (by omega)
    · exact InK.u32 (by omega))
end
/-! ### guarded operands -/
def tmpAt (o : Oper) (i : Nat) : Option Nat := match o.op.operands.toList[i]? with
  | some (.tmp t) => some t
  | _ => none
theorem OpP.unl {P : Program} {L : List Res} {E : Env} {o : Oper} {T T0 U0 : Ty} {t : Nat} (hc : Sub U0 T0) (h : E.get t = some U0) (k : OpP P L ((t, T0) :: E) o T) : OpP P L E o T := by
  intro a w G S hs ho ht
  refine k a w G S hs ho fun x hx U hU => ?_
  cases x with
  | tmp t' =>
    simp only [Opd, Env.get] at hU
    by_cases hk : Nat.beq t t' = true
    · rw [hk] at hU
      have := Nat.eq_of_beq_eq_true hk; subst this
      simp at hU; subst hU
      exact hc _ _ (ht (.tmp t) hx _ h)
    · have hk' : Nat.beq t t' = false := Bool.eq_false_iff.2 hk
      rw [hk'] at hU
      exact ht (.tmp t') hx U hU
  | const v => exact ht (.const v) hx U hU
  | global g => exact ht (.global g) hx U hU
  | func f => exact ht (.func f) hx U hU
theorem exUn {P : Program} {L : List Res} {E : Env} {o : Oper} {T0 : Ty} {c : Prop} {t : Nat} {K : Ty → Prop} (i : Nat) (hi : tmpAt o i = some t) (h : E.get t = some (TIf c T0)) (k : ∃ T, (c → OpP P L ((t, T0) :: E) o T) ∧ K T) : ∃ T, (c → OpP P L E o T) ∧ K T :=
  let ⟨T, h1, h2⟩ := k; ⟨T, fun hc => OpP.unl (U0 := TIf c T0) (fun _ _ k => k.1 hc) h (h1 hc), h2⟩
/-- An operand that is there where c and d are: to an operation that is run where c is. -/
theorem exUnR {P : Program} {L : List Res} {E : Env} {o : Oper} {T0 : Ty} {c d : Prop} {t : Nat} {K : Ty → Prop} (i : Nat) (hi : tmpAt o i = some t) (h : E.get t = some (TIf (c ∧ d) T0)) (k : ∃ T, (c → OpP P L ((t, TIf d T0) :: E) o T) ∧ K T) : ∃ T, (c → OpP P L E o T) ∧ K T :=
  let ⟨T, h1, h2⟩ := k; ⟨T, fun hc => OpP.unl (U0 := TIf (c ∧ d) T0) (T0 := TIf d T0) (fun _ _ k => ⟨fun hd => k.1 ⟨hc, hd⟩, fun hn => k.2 (fun h => hn h.2)⟩) h (h1 hc), h2⟩
/-- An operand that is there where c is: to an operation that is run where c and d are. -/
theorem exUnL {P : Program} {L : List Res} {E : Env} {o : Oper} {T0 : Ty} {c d : Prop} {t : Nat} {K : Ty → Prop} (i : Nat) (hi : tmpAt o i = some t) (h : E.get t = some (TIf c T0)) (k : ∃ T, (c ∧ d → OpP P L ((t, T0) :: E) o T) ∧ K T) : ∃ T, (c ∧ d → OpP P L E o T) ∧ K T :=
  let ⟨T, h1, h2⟩ := k; ⟨T, fun hc => OpP.unl (U0 := TIf c T0) (fun _ _ k => k.1 hc.1) h (h1 hc), h2⟩
section
variable {P : Program} {L : List Res} {E : Env} {dst : Option Tmp} {ty : TypeId} {pos : String} {after : Array Edge} {gd : Option (Nat × Bool)} {x i : Operand} {l : List UInt8} {n : Int} {k : IntKind} {t e : TypeId}
theorem op_indexB (hx : Opd E x = some (TBytes l)) (hi : Opd E i = some (okI k n)) (hu : P.underlying t = some (.slice e)) (hsz : P.cellsOf e = 1) (hinf : (P.info? e).isSome = true)
    (h : 0 ≤ n ∧ n < (l.length : Int)) : OpP P L E ⟨dst, .indexAddr t x i, ty, pos, after, gd⟩ (TPc (cB (l.getD n.toNat 0))) := op_indexD hx hi hu hsz hinf h
theorem op_indexB0 (hx : Opd E x = some (TBytes l)) (hu : P.underlying t = some (.slice e)) (hsz : P.cellsOf e = 1) (hinf : (P.info? e).isSome = true)
    (h : 0 < l.length) : OpP P L E ⟨dst, .indexAddr t x (.const (.int k 0)), ty, pos, after, gd⟩ (TPc (cB (l.getD 0 0))) := op_indexD (n := 0) hx rfl hu hsz hinf (by omega)
theorem op_indexB1 (hx : Opd E x = some (TBytes l)) (hu : P.underlying t = some (.slice e)) (hsz : P.cellsOf e = 1) (hinf : (P.info? e).isSome = true)
    (h : 1 < l.length) : OpP P L E ⟨dst, .indexAddr t x (.const (.int k 1)), ty, pos, after, gd⟩ (TPc (cB (l.getD 1 0))) := op_indexD (n := 1) hx rfl hu hsz hinf (by omega)
end
theorem op_orlow8 {P : Program} {L : List Res} {E : Env} {dst : Option Tmp} {ty : TypeId} {pos : String} {after : Array Edge} {gd : Option (Nat × Bool)} {x y : Operand} {m : Int} {c : UInt8} {xt yt : TypeId} (hx : Opd E x = some (okI .i64 (m * 256))) (hy : Opd E y = some (okI .i64 (c.toNat : Int))) (hm : -36028797018963968 ≤ m ∧ m ≤ 36028797018963967) : OpP P L E ⟨dst, .binOp .or xt x y yt, ty, pos, after, gd⟩ (okI .i64 (m * 256 + (c.toNat : Int))) := by
  have := c.toNat_lt
  exact op_orlow hx hy (by omega) (InK.i64 (by omega))
theorem op_or8' {P : Program} {L : List Res} {E : Env} {dst : Option Tmp} {ty : TypeId} {pos : String} {after : Array Edge} {gd : Option (Nat × Bool)} {y : Operand} {n : Int} {c : UInt8} {xt yt : TypeId} {k : IntKind} (hk : k = .u8) (hy : Opd E y = some (okI .u8 (c.toNat : Int))) (h : 0 ≤ n ∧ n < 256) : OpP P L E ⟨dst, .binOp .or xt (.const (.int k n)) y yt, ty, pos, after, gd⟩ (okI .u8 ((b8 n ||| c).toNat : Int)) := by
  subst hk
  have e := or8 (b8 n) (n := (c.toNat : Int)) ⟨by omega, by have := c.toNat_lt; omega⟩
  have hb : b8 (c.toNat : Int) = c := by
    apply UInt8.toNat_inj.1
    have h1 := b8_toNat (c.toNat : Int)
    have := c.toNat_lt
    omega
  rw [hb] at e
  have h2 := b8_of h
  rw [h2] at e
  rw [← e]
  exact op_orb (P := P) (L := L) (E := E) (dst := dst) (ty := ty) (pos := pos) (after := after) (gd := gd) (xt := xt) (yt := yt) (x := .const (.int .u8 n)) (y := y) (k := .u8) (m := n) (n := (c.toNat : Int)) rfl hy
section
variable {P : Program} {L : List Res} {E : Env} {dst : Option Tmp} {ty : TypeId} {pos : String} {after : Array Edge} {gd : Option (Nat × Bool)} {x ix : Operand} {i : Nat} {k : IntKind} {t e : TypeId}
theorem op_indexBN {l : List UInt8} (hx : Opd E x = some (TBytes l)) (hi : Opd E ix = some (okI k (i : Int))) (hu : P.underlying t = some (.slice e)) (hsz : P.cellsOf e = 1) (hinf : (P.info? e).isSome = true)
    (h : i < l.length) : OpP P L E ⟨dst, .indexAddr t x ix, ty, pos, after, gd⟩ (TPc (cB (l.getD i 0))) := op_indexD (n := (i : Int)) hx hi hu hsz hinf (by omega)
theorem op_indexN {α : Type} [Inhabited α] {sz : Nat} {f : α → List Ty} {l : List α} (hx : Opd E x = some (TSl sz f l)) (hi : Opd E ix = some (okI k (i : Int))) (hu : P.underlying t = some (.slice e)) (hsz : P.cellsOf e = sz) (hinf : (P.info? e).isSome = true)
    (h : i < l.length) : OpP P L E ⟨dst, .indexAddr t x ix, ty, pos, after, gd⟩ (TPc (f (l.getD i default))) := op_indexD (n := (i : Int)) hx hi hu hsz hinf (by omega)
end
/-! ### calls whose arguments' types are wider -/
def OpdsS (E : Env) : List Operand → List Ty → Prop
  | [], [] => True
  | x :: xs, T :: A => (∃ U, Opd E x = some U ∧ Sub U T) ∧ OpdsS E xs A
  | _, _ => False
theorem OpdsS.args {E : Env} {G : Imm} {a : Act} : ∀ (xs : List Operand) (A : List Ty), OpdsS E xs A → (∀ x ∈ xs, ∀ T, Opd E x = some T → T.p G (a.eval x)) → ArgsT G A (xs.map a.eval)
  | [], [], _, _ => trivial
  | x :: xs, T :: A, h, ho => ⟨let ⟨U, h1, h2⟩ := h.1; h2 _ _ (ho x (by simp) U h1), OpdsS.args xs A h.2 (fun y hy => ho y (by simp [hy]))⟩
  | [], _ :: _, h, _ => h.elim
  | _ :: _, [], h, _ => h.elim
section
variable {P : Program} {L : List Res} {E : Env} {dst : Option Tmp} {ty : TypeId} {pos : String} {after : Array Edge} {gd : Option (Nat × Bool)}
theorem op_callS {f : FuncId} {A : List Ty} {T : Ty} {xs : List Operand} {tys : Array TypeId} (hf : CFn P f A T) (hx : OpdsS E xs A) :
    OpP P L E ⟨dst, .call { callee := .value (.func f), args := xs.toArray, argTypes := tys }, ty, pos, after, gd⟩ T := by
  intro a w G S hs ho ht K Q k
  simp only [Oper.wp, run_call_func w hf.enter, Oper.upon_enter]
  refine (hf.calls _ w G _ hs (Owns.none G w) (OpdsS.args xs A hx (fun x hx' => ht x (by simp [Op.operands, Call.operands, hx'])))).mono ?_
  rintro e w' ⟨v, G', S', rfl, hext, -, -, hT⟩
  exact k v w' G' ⟨hext.sat, hext.le, hext.os, hext.tape, hext.output, hext.size, fun b hb _ => hext.blk b hb (fun ⟨_, h⟩ => h)⟩ hT
theorem op_callOS {f : FuncId} {A : List Ty} {T : Value → Ty} {R : Value → Res} {xs : List Operand} {tys : Array TypeId} (hf : CallsC P f A [] T (fun v => [R v])) (hx : OpdsS E xs A) :
    OpC P L E ⟨dst, .call { callee := .value (.func f), args := xs.toArray, argTypes := tys }, ty, pos, after, gd⟩ T (fun v => L ++ [R v]) := by
  intro a w G S hs ho ht K Q k
  simp only [Oper.wp, run_call_func w hf.enter, Oper.upon_enter]
  refine (hf.calls _ w G _ hs (Owns.none G w) (OpdsS.args xs A hx (fun x hx' => ht x (by simp [Op.operands, Call.operands, hx'])))).mono ?_
  rintro e w' ⟨v, G', S', rfl, hext, ho', hs', hT⟩
  have hext0 : Ext noZ G w G' w' := ⟨hext.sat, hext.le, hext.os, hext.tape, hext.output, hext.size, fun b hb _ => hext.blk b hb (fun ⟨_, h⟩ => h)⟩
  refine k v w' G' _ ⟨hext.sat, hext.le, hext.os, hext.tape, hext.output, hext.size, fun b hb _ => hext0.blk b hb (fun z => z)⟩ (ho.snoc hext0 _ (S' 0) (fun b hb => ⟨(hs' 0 b hb).elim id (fun ⟨_, h⟩ => h.elim), ho'.bound 0 b hb⟩) (ho'.res 0 _ rfl)) ?_ hT
  intro i b hb'
  by_cases hi : i = L.length
  · simp only [hi, if_true] at hb'; exact .inl ((hs' 0 b hb').elim id (fun ⟨_, h⟩ => h.elim))
  · simp only [hi, if_false] at hb'; exact .inr ⟨i, hb'⟩
end
theorem Sub.ownR {v : Value} {T U : Ty} (h : Sub T U) : Sub (TAnd (Is v) T) U := fun _ _ k => h _ _ k.2
section
variable {P : Program} {L : List Res} {E : Env} {dst : Option Tmp} {ty : TypeId} {pos : String} {after : Array Edge} {gd : Option (Nat × Bool)} {c y : Operand} {b b' : Bool}
theorem op_orU (hc : Opd E c = some (Is (.bool b))) (hy : Opd E y = some (Is (.bool b'))) : OpP P L E ⟨dst, .pick c (.const (.bool true)) y, ty, pos, after, gd⟩ (Is (.bool (b || b'))) :=
  OpP.same fun a w G S _ _ h => by
    have h1 : a.eval c = .bool b := h c (by simp [Op.operands]) _ hc
    have h2 : a.eval y = .bool b' := h y (by simp [Op.operands]) _ hy
    cases b
    · exact ⟨.bool b', by simp [execOp, h1, asBool, h2], by simp [Is]⟩
    · exact ⟨.bool true, by simp only [execOp, h1]; simp [asBool, Act.eval], by simp [Is]⟩
theorem op_andU (hc : Opd E c = some (Is (.bool b))) (hy : Opd E y = some (Is (.bool b'))) : OpP P L E ⟨dst, .pick c y (.const (.bool false)), ty, pos, after, gd⟩ (Is (.bool (b && b'))) :=
  OpP.same fun a w G S _ _ h => by
    have h1 : a.eval c = .bool b := h c (by simp [Op.operands]) _ hc
    have h2 : a.eval y = .bool b' := h y (by simp [Op.operands]) _ hy
    cases b
    · exact ⟨.bool false, by simp only [execOp, h1]; simp [asBool, Act.eval], by simp [Is]⟩
    · exact ⟨.bool b', by simp [execOp, h1, asBool, h2], by simp [Is]⟩
end
end Go.Vk
