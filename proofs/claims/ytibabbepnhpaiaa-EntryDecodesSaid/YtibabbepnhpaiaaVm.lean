/-
  More rules: arithmetic (products, quotients, rests, masks), literals of bytes, literals that are one's own. Nothing here speaks of a program; no conditions.
-/
import Derived.Test.YtibabbepnhpaiaaVn
set_option linter.unusedVariables false
namespace Go.Vk
section
variable {P : Program} {L : List Res} {E : Env} {dst : Option Tmp} {ty : TypeId} {pos : String} {after : Array Edge} {gd : Option (Nat × Bool)} {x y : Operand} {m n : Int} {k : IntKind} {xt yt : TypeId}
theorem op_rem (hx : Opd E x = some (okI k m)) (hy : Opd E y = some (okI k n)) (h : 0 ≤ m ∧ 0 < n) : OpP P L E ⟨dst, .binOp .rem xt x y yt, ty, pos, after, gd⟩ (okI k (m % n)) :=
  op_bin hx hy (by simp) (by simp) (fun w => by
    have e : n ≠ 0 := by omega
    simp [Op.intDiv, e]
    rfl) (fun _ => by
    rw [Int.tmod_eq_emod_of_nonneg h.1]; rfl)
theorem op_quo (hx : Opd E x = some (okI k m)) (hy : Opd E y = some (okI k n)) (h : 0 ≤ m ∧ 0 < n) (hk : InK k m ∧ (∀ q : Int, 0 ≤ q → q ≤ m → InK k q)) : OpP P L E ⟨dst, .binOp .quo xt x y yt, ty, pos, after, gd⟩ (okI k (m / n)) :=
  op_bin hx hy (by simp) (by simp) (fun w => by
    have e : n ≠ 0 := by omega
    simp [Op.intDiv, e]
    rfl) (fun _ => by
    rw [Int.tdiv_eq_ediv_of_nonneg h.1]
    have h1 : 0 ≤ m / n := Int.ediv_nonneg h.1 (by omega)
    have h2 : m / n ≤ m := Int.ediv_le_self _ h.1
    rw [show k.wrap (m / n) = m / n from hk.2 _ h1 h2]; rfl)
theorem upto_i64 (h : 0 ≤ m ∧ m ≤ 9223372036854775807) : InK .i64 m ∧ (∀ q : Int, 0 ≤ q → q ≤ m → InK .i64 q) := ⟨InK.i64 (by omega), fun q h1 h2 => InK.i64 (by omega)⟩
theorem upto_u64 (h : 0 ≤ m ∧ m ≤ 18446744073709551615) : InK .u64 m ∧ (∀ q : Int, 0 ≤ q → q ≤ m → InK .u64 q) := ⟨InK.u64 (by omega), fun q h1 h2 => InK.u64 (by omega)⟩
theorem mask_toNat (b j : Nat) (m : Int) (hj : j ≤ b) : (((BitVec.ofInt b m) &&& BitVec.ofInt b ((2 ^ j - 1 : Nat) : Int)).toNat : Int) = m % (2 ^ j : Nat) := by
  have hp : (2 : Nat) ^ j ≤ 2 ^ b := Nat.pow_le_pow_right (by decide) hj
  have h0 : 0 < (2 : Nat) ^ j := Nat.pow_pos (by decide)
  rw [BitVec.toNat_and, BitVec.toNat_ofInt, BitVec.toNat_ofInt]
  have e1 : (((2 ^ j - 1 : Nat) : Int) % ((2 ^ b : Nat) : Int)).toNat = 2 ^ j - 1 := by
    rw [Int.emod_eq_of_lt (by omega) (by omega)]; omega
  rw [e1, Nat.and_two_pow_sub_one_eq_mod]
  have hd : ((2 ^ j : Nat) : Int) ∣ ((2 ^ b : Nat) : Int) := by
    exact_mod_cast Nat.pow_dvd_pow 2 hj
  have h2 : 0 ≤ m % ((2 ^ b : Nat) : Int) := Int.emod_nonneg _ (by omega)
  rw [Int.natCast_emod, Int.toNat_of_nonneg h2, Int.emod_emod_of_dvd _ hd]
theorem op_andM (j : Nat) (hx : Opd E x = some (okI k m)) (hy : Opd E y = some (okI k n)) (hn : n = ((2 ^ j - 1 : Nat) : Int)) (hj : Nat.ble j k.bits = true) (hk : InK k (m % (2 ^ j : Nat))) : OpP P L E ⟨dst, .binOp .and xt x y yt, ty, pos, after, gd⟩ (okI k (m % (2 ^ j : Nat))) := by
  have h := op_andb (P := P) (L := L) (dst := dst) (ty := ty) (pos := pos) (after := after) (gd := gd) (xt := xt) (yt := yt) hx hy
  have e : bitsOf .and k m n = m % (2 ^ j : Nat) := by
    unfold bitsOf
    dsimp only
    rw [hn, mask_toNat k.bits j m (Nat.le_of_ble_eq_true hj)]
    exact hk
  rw [e] at h
  exact h
theorem op_and65535 (hx : Opd E x = some (okI .i64 m)) : OpP P L E ⟨dst, .binOp .and xt x (.const (.int .i64 65535)) yt, ty, pos, after, gd⟩ (okI .i64 (m % 65536)) := op_andM 16 hx rfl rfl rfl (InK.i64 (by omega))
theorem op_and31 (hx : Opd E x = some (okI .u8 m)) : OpP P L E ⟨dst, .binOp .and xt x (.const (.int .u8 31)) yt, ty, pos, after, gd⟩ (okI .u8 (m % 32)) := op_andM 5 hx rfl rfl rfl (InK.u8 (by omega))
/-! ### literals of bytes -/
theorem LitOk.nil {α : Type} {f : α → List Ty} : LitOk E f [] [] := trivial
theorem LitOk.byte {c : UInt8} {xs : List Operand} {l : List UInt8} (hx : Opd E x = some (okI .u8 (c.toNat : Int))) (k : LitOk E cB xs l) : LitOk E cB (x :: xs) (c :: l) := ⟨⟨_, hx, CellsOf.byte c⟩, k⟩
theorem LitOk.b8 {xs : List Operand} {l : List UInt8} (hx : Opd E x = some (okI .u8 m)) (hm : 0 ≤ m ∧ m < 256) (k : LitOk E cB xs l) : LitOk E cB (x :: xs) (Vk.b8 m :: l) := ⟨⟨_, hx, CellsOf.b8 hm⟩, k⟩
theorem op_litBs {nn : Nat} {l : List UInt8} {t e : TypeId} {parts : Array (Nat × Operand)} (hp : partsOk parts nn = true) (hx : LitOk E cB (partsOf parts) l) (hn : Nat.beq l.length nn = true) (hu : P.underlying t = some (.slice e)) (hi : ByteEl P e) (hb : Nat.ble nn 16777216 = true) : OpP P L E ⟨dst, .buildSlice t nn parts, ty, pos, after, gd⟩ (TSlX 1 cB l) :=
  op_lit cB l hp hx (Nat.eq_of_beq_eq_true hn).symm (by simp [cB]) hu hi (by have := Nat.le_of_ble_eq_true hb; omega) (by have := Nat.le_of_ble_eq_true hb; simp only [maxLen]; omega)
theorem oc_litBs {nn d : Nat} {l : List UInt8} {t e : TypeId} {parts : Array (Nat × Operand)} {L' : Value → List Res} (hp : partsOk parts nn = true) (hx : LitOk E cB (partsOf parts) l) (hn : Nat.beq l.length nn = true) (hu : P.underlying t = some (.slice e)) (hi : ByteEl P e) (hb : Nat.ble nn 16777216 = true) (hL' : ∀ v, L ++ [ownSl v 1 e] = L' v) :
    OpC P L E ⟨some d, .buildSlice t nn parts, ty, pos, after, gd⟩ (fun v => TAnd (Is v) (TBytes l)) L' := by
  have := op_litO (P := P) (L := L) (E := E) (dst := some d) (ty := ty) (pos := pos) (after := after) (gd := gd) cB l hp hx (Nat.eq_of_beq_eq_true hn).symm (by simp [cB]) hu hi (by have := Nat.le_of_ble_eq_true hb; omega) (by have := Nat.le_of_ble_eq_true hb; simp only [maxLen]; omega)
  simpa only [hL'] using this
theorem oc_litT {nn sz by_ d : Nat} {t e : TypeId} {z : Value} {parts : Array (Nat × Operand)} {tss : List (List Ty)} {L' : Value → List Res} (hp : partsOk parts nn = true) (hx : PartsT E sz (partsOf parts) tss) (hu : P.underlying t = some (.slice e)) (hinf : (P.info? e).map (fun i => (i.zero, i.size, i.bytes)) = some (some z, sz, by_)) (hn : Nat.beq tss.length nn = true) (hb : nn * sz ≤ 16777216 ∧ nn ≤ 16777216) (hL' : ∀ v, L ++ [ownSl v sz e] = L' v) :
    OpC P L E ⟨some d, .buildSlice t nn parts, ty, pos, after, gd⟩ (fun v => TAnd (Is v) (TSl sz (fun ts : List Ty => ts) tss)) L' := by
  obtain ⟨h1, h2, h3⟩ := hx.lit
  have := op_litO (P := P) (L := L) (E := E) (dst := some d) (ty := ty) (pos := pos) (after := after) (gd := gd) (fun ts : List Ty => ts) tss hp h1 (Nat.eq_of_beq_eq_true hn).symm h3 hu hinf hb.1 (by simp only [maxLen]; omega)
  simpa only [hL'] using this
/-- The same, where a marker says so. -/
theorem oc_litM {op : Op} {d : Nat} {ds : List Nat} {T : Value → Ty} {L' : Value → List Res} (hm : Mut ds) (hmd : ds.any (Nat.beq d) = true) (h : OpC P L E ⟨some d, op, ty, pos, after, gd⟩ T L') : OpC P L E ⟨some d, op, ty, pos, after, gd⟩ T L' := h
/-! ### append, with bounds on lengths alone -/
theorem upto_bytes {a b : Nat} (h1 : Nat.ble b 1024 = true) (h2 : a ≤ 137438953472) : a * b ≤ 140737488355328 ∧ a ≤ maxLen := by
  have := Nat.le_of_ble_eq_true h1
  refine ⟨Nat.le_trans (Nat.mul_le_mul h2 this) (by decide), ?_⟩
  simp only [maxLen]; omega
variable {α : Type} {sz by_ : Nat} {f : α → List Ty} {l q : List α} {t e : TypeId} {z v : Value} {U : Ty} {L' : Value → List Res}
theorem oc_appendO' (i : Nat) (hx : Opd E x = some (TAnd (Is v) (TSl sz f l))) (hL : L[i]? = some (ownSl v sz e)) (hy : Opd E y = some U) (hs : Sub U (TSl sz f q))
    (hu : P.underlying t = some (.slice e)) (hinf : (P.info? e).map (fun i => (i.zero, i.size, i.bytes)) = some (some z, sz, by_)) (hz : z.cells.size = sz) (hb : Nat.ble by_ 1024 = true) (hl : l.length + q.length ≤ 137438953472) (hL' : ∀ v', L.set i (ownSl v' sz e) = L' v') :
    OpC P L E ⟨dst, .call { callee := .builtin .append, args := #[x, y], argTypes := #[t, t] }, ty, pos, after, gd⟩ (fun v' => TAnd (Is v') (TSl sz f (l ++ q))) L' := oc_appendO i hx hL hy hs hu hinf hz (upto_bytes hb hl) hL'
theorem oc_appendNil' (hx : Opd E x = some (Is (.slice none 0 0))) (hy : Opd E y = some U) (hs : Sub U (TSl sz f q))
    (hu : P.underlying t = some (.slice e)) (hinf : (P.info? e).map (fun i => (i.zero, i.size, i.bytes)) = some (some z, sz, by_)) (hz : z.cells.size = sz) (hb : Nat.ble by_ 1024 = true) (hl : q.length ≤ 137438953472) (hL' : ∀ v', L ++ [ownSl v' sz e] = L' v') :
    OpC P L E ⟨dst, .call { callee := .builtin .append, args := #[x, y], argTypes := #[t, t] }, ty, pos, after, gd⟩ (fun v' => TAnd (Is v') (TSl sz f q)) L' := oc_appendNil hx hy hs hu hinf hz (upto_bytes hb hl) hL'
theorem op_append0' {x : Nat} (hx : E.get x = some (TSlX sz (fun ts : List Ty => ts) [])) (hy : Opd ((x, TSlX sz f ([] : List α)) :: E) y = some (TSl sz f q))
    (hu : P.underlying t = some (.slice e)) (hinf : (P.info? e).map (fun i => (i.zero, i.size, i.bytes)) = some (some z, sz, by_)) (hb : Nat.ble by_ 1024 = true) (hl : q.length ≤ 137438953472) :
    OpP P L E ⟨dst, .call { callee := .builtin .append, args := #[.tmp x, y], argTypes := #[t, t] }, ty, pos, after, gd⟩ (TSl sz f q) := op_append0 hx hy hu hinf (upto_bytes hb hl)
theorem op_appendXT' {l q : List (List Ty)} (hx : Opd E x = some (TSlX sz (fun ts : List Ty => ts) l)) (hy : Opd E y = some (TSl sz (fun ts : List Ty => ts) q))
    (hu : P.underlying t = some (.slice e)) (hinf : (P.info? e).map (fun i => (i.zero, i.size, i.bytes)) = some (some z, sz, by_)) (hb : Nat.ble by_ 1024 = true) (hl : l.length + q.length ≤ 137438953472) :
    OpP P L E ⟨dst, .call { callee := .builtin .append, args := #[x, y], argTypes := #[t, t] }, ty, pos, after, gd⟩ (TSl sz (fun ts : List Ty => ts) (l ++ q)) := op_appendXT hx hy hu hinf (upto_bytes hb hl)
theorem oc_appendT' {x : Nat} {tss : List (List Ty)} (i : Nat) (hx : E.get x = some (TAnd (Is v) (TSl sz f l))) (hL : L[i]? = some (ownSl v sz e)) (hy : Opd E y = some (TSlX sz (fun ts : List Ty => ts) tss))
    (hu : P.underlying t = some (.slice e)) (hinf : (P.info? e).map (fun i => (i.zero, i.size, i.bytes)) = some (some z, sz, by_)) (hz : z.cells.size = sz) (hb : Nat.ble by_ 1024 = true) (hl : l.length + tss.length ≤ 137438953472) (hL' : ∀ v', L.set i (ownSl v' sz e) = L' v') :
    OpC P L E ⟨dst, .call { callee := .builtin .append, args := #[.tmp x, y], argTypes := #[t, t] }, ty, pos, after, gd⟩ (fun v' => TAnd (Is v') (TSl sz (fun ts : List Ty => ts) (l.map f ++ tss))) L' := oc_appendT i hx hL hy hu hinf hz (upto_bytes hb hl) hL'
/-- append onto nil what is written out. -/
theorem oc_appendNT {tss : List (List Ty)} (hx : Opd E x = some (Is (.slice none 0 0))) (hy : Opd E y = some (TSlX sz (fun ts : List Ty => ts) tss))
    (hu : P.underlying t = some (.slice e)) (hinf : (P.info? e).map (fun i => (i.zero, i.size, i.bytes)) = some (some z, sz, by_)) (hz : z.cells.size = sz) (hb : Nat.ble by_ 1024 = true) (hl : tss.length ≤ 137438953472) (hL' : ∀ v', L ++ [ownSl v' sz e] = L' v') :
    OpC P L E ⟨dst, .call { callee := .builtin .append, args := #[x, y], argTypes := #[t, t] }, ty, pos, after, gd⟩ (fun v' => TAnd (Is v') (TSl sz (fun ts : List Ty => ts) tss)) L' := oc_appendNil' hx hy (Sub.slx rfl) hu hinf hz hb hl hL'
/-- A call that hands back a slice that is one's own. -/
theorem oc_callO {f : FuncId} {A : List Ty} {sz : Nat} {T : Ty} {e : TypeId} {xs : List Operand} {tys : Array TypeId} {L' : Value → List Res} (hf : CallsC P f A [] (fun v => TAnd (Is v) T) (fun v => [ownSl v sz e])) (zx : OpdsS E xs A) (zL : ∀ v, L ++ [ownSl v sz e] = L' v) :
    OpC P L E ⟨dst, .call { callee := .value (.func f), args := xs.toArray, argTypes := tys }, ty, pos, after, gd⟩ (fun v => TAnd (Is v) T) L' := by
  have := op_callR (P := P) (L := L) (E := E) (dst := dst) (ty := ty) (pos := pos) (after := after) (gd := gd) (tys := tys) (is := []) hf zx PickL.nil rfl (fun _ => Nat.zero_le _)
  simpa only [updL, zL] using this
end
end Go.Vk
