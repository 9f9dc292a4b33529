/-
  Rules for structs by value, strings, rows of structs. Nothing here speaks of a program; no conditions.
  Rules for conversions of texts, equality of structs, least and greatest, functions as values. Nothing here speaks of a program; no conditions.
  The steps with resources in the form that 'run' takes. Nothing here speaks of a program; no conditions.
  Some more rules, and what tells goals apart. Nothing here speaks of a program; no conditions.
-/
import Derived.Test.YtphakclfahianaaDoorGad
import Derived.Laws.StructEq
import Derived.Laws.IdiomStrings
import Derived.Lib.Builder
import Derived.Lib.Bytealg
set_option linter.unusedSimpArgs false
set_option linter.unusedVariables false
set_option linter.unusedVariables false
namespace Go.Vk
section
variable {P : Program} {L : List Res} {E : Env} {dst : Option Tmp} {ty : TypeId} {pos : String} {after : Array Edge} {gd : Option (Nat × Bool)}

/-! ### strings -/
theorem str_size (l : List UInt8) : (ByteArray.mk l.toArray).size = l.length := size_str l
theorem run_strIndex (w : World) {t : TypeId} {l : List UInt8} {k : IntKind} {n : Int} (hu : P.underlying t = some .string) (h : 0 ≤ n ∧ n < (l.length : Int)) : (Instr.index t (str l) (.int k n)).run P w = .ok (.int .u8 ((l.getD n.toNat 0).toNat : Int)) w := by
  have hlt : n.toNat < l.length := by omega
  have hsz : (ByteArray.mk l.toArray).size = l.length := size_str l
  have hget : (ByteArray.mk l.toArray)[n.toNat]? = some (l.getD n.toNat 0) := by
    rw [getElem?_pos _ _ (by rw [hsz]; exact hlt)]
    congr 1
    rw [List.getD_eq_getElem?_getD, List.getElem?_eq_getElem hlt]
    rfl
  simp only [Instr.index, str, asIntOf, Sem.run_bind, Sem.run_pure, Result.andThen_ok, run_underlying hu, if_pos h.1, hget]
theorem op_sindex {x i : Operand} {l : List UInt8} {k : IntKind} {n : Int} {t : TypeId} (hx : Opd E x = some (Is (str l))) (hi : Opd E i = some (okI k n)) (hu : P.underlying t = some .string) (h : 0 ≤ n ∧ n < (l.length : Int)) : OpP P L E ⟨dst, .index t x i, ty, pos, after, gd⟩ (okI .u8 ((l.getD n.toNat 0).toNat : Int)) :=
  OpP.same fun a w G S _ _ ho => by
    have h1 : a.eval x = str l := ho x (by simp [Op.operands]) _ hx
    have h2 : a.eval i = .int k n := ho i (by simp [Op.operands]) _ hi
    refine ⟨_, ?_, rfl⟩
    simp only [execOp, h1, h2]
    simp [run_strIndex w hu h]
theorem op_sindexN {x ix : Operand} {l : List UInt8} {k : IntKind} {i : Nat} {t : TypeId} (hx : Opd E x = some (Is (str l))) (hi : Opd E ix = some (okI k (i : Int))) (hu : P.underlying t = some .string) (h : i < l.length) : OpP P L E ⟨dst, .index t x ix, ty, pos, after, gd⟩ (okI .u8 ((l.getD i 0).toNat : Int)) := by
  have := op_sindex (P := P) (L := L) (dst := dst) (ty := ty) (pos := pos) (after := after) (gd := gd) hx hi hu (by omega)
  simpa using this
theorem str_extract (l : List UInt8) (a b : Nat) : (ByteArray.mk l.toArray).extract a b = ByteArray.mk ((l.take b).drop a).toArray := by
  apply ByteArray.ext
  apply Array.toList_inj.1
  simp [ByteArray.data_extract, Array.toList_extract, List.extract_eq_take_drop]
  rw [List.drop_take]
theorem op_sslice {x : Operand} {lo hi : Option Operand} {l : List UInt8} {t : TypeId} {m n : Int} (hx : Opd E x = some (Is (str l))) (hu : P.underlying t = some .string)
    (hlo : (lo = none ∧ m = 0) ∨ ∃ o k, lo = some o ∧ Opd E o = some (okI k m)) (hhi : (hi = none ∧ n = (l.length : Int)) ∨ ∃ o k, hi = some o ∧ Opd E o = some (okI k n)) (h0 : 0 ≤ m) (h1 : m ≤ n) (h2 : n ≤ (l.length : Int)) :
    OpP P L E ⟨dst, .slice t x lo hi none, ty, pos, after, gd⟩ (Is (str ((l.take n.toNat).drop m.toNat))) :=
  OpP.same fun a w G S _ _ ho => by
    have e1 : a.eval x = str l := ho x (by simp [Op.operands]) _ hx
    refine ⟨_, ?_, rfl⟩
    obtain ⟨m, rfl⟩ := Int.eq_ofNat_of_zero_le h0
    obtain ⟨n, rfl⟩ := Int.eq_ofNat_of_zero_le (show 0 ≤ n by omega)
    have g1 : m ≤ n := by omega
    have g2 : n ≤ l.length := by omega
    have hlo' : lo.map a.eval = none ∧ m = 0 ∨ ∃ k, lo.map a.eval = some (.int k m) := by
      rcases hlo with ⟨rfl, h⟩ | ⟨o, k, rfl, hk⟩
      · exact .inl ⟨rfl, by omega⟩
      · exact .inr ⟨k, by have : a.eval o = .int k m := ho o (by simp [Op.operands]) _ hk
                          simp [this]⟩
    have hhi' : hi.map a.eval = none ∧ n = l.length ∨ ∃ k, hi.map a.eval = some (.int k n) := by
      rcases hhi with ⟨rfl, h⟩ | ⟨o, k, rfl, hk⟩
      · exact .inl ⟨rfl, by omega⟩
      · exact .inr ⟨k, by have : a.eval o = .int k n := ho o (by simp [Op.operands]) _ hk
                          simp [this]⟩
    have hr : (Instr.sliceAt t (str l) (lo.map a.eval) (hi.map a.eval) none).run P w = .ok (str ((l.take n).drop m)) w := by
      have hx := str_extract l m n
      rcases hlo' with ⟨q1, rfl⟩ | ⟨k, q1⟩ <;> rcases hhi' with ⟨q2, rfl⟩ | ⟨k', q2⟩ <;>
        simp [q1, q2, Instr.sliceAt, run_underlying hu, Instr.slice, Instr.sliceBounds, Instr.sliceBound, asIntOf, str, size_str, g1, g2, hx]
    simp only [execOp, e1]
    simp [hr]
theorem op_sslice2 {x o o' : Operand} {l : List UInt8} {t : TypeId} {m n : Int} {k k' : IntKind} (hx : Opd E x = some (Is (str l))) (hu : P.underlying t = some .string) (hlo : Opd E o = some (okI k m)) (hhi : Opd E o' = some (okI k' n)) (h : 0 ≤ m ∧ m ≤ n ∧ n ≤ (l.length : Int)) :
    OpP P L E ⟨dst, .slice t x (some o) (some o') none, ty, pos, after, gd⟩ (Is (str ((l.take n.toNat).drop m.toNat))) := op_sslice hx hu (.inr ⟨o, k, rfl, hlo⟩) (.inr ⟨o', k', rfl, hhi⟩) h.1 h.2.1 h.2.2
theorem op_ssliceL {x o : Operand} {l : List UInt8} {t : TypeId} {m : Int} {k : IntKind} (hx : Opd E x = some (Is (str l))) (hu : P.underlying t = some .string) (hlo : Opd E o = some (okI k m)) (h : 0 ≤ m ∧ m ≤ (l.length : Int)) :
    OpP P L E ⟨dst, .slice t x (some o) none none, ty, pos, after, gd⟩ (Is (str (l.drop m.toNat))) := by
  have := op_sslice (P := P) (L := L) (dst := dst) (ty := ty) (pos := pos) (after := after) (gd := gd) (n := (l.length : Int)) hx hu (.inr ⟨o, k, rfl, hlo⟩) (.inl ⟨rfl, rfl⟩) h.1 h.2 (Int.le_refl _)
  simpa using this
theorem op_ssliceH {x o' : Operand} {l : List UInt8} {t : TypeId} {n : Int} {k' : IntKind} (hx : Opd E x = some (Is (str l))) (hu : P.underlying t = some .string) (hhi : Opd E o' = some (okI k' n)) (h : 0 ≤ n ∧ n ≤ (l.length : Int)) :
    OpP P L E ⟨dst, .slice t x none (some o') none, ty, pos, after, gd⟩ (Is (str (l.take n.toNat))) := by
  have := op_sslice (P := P) (L := L) (dst := dst) (ty := ty) (pos := pos) (after := after) (gd := gd) (m := 0) hx hu (.inl ⟨rfl, rfl⟩) (.inr ⟨o', k', rfl, hhi⟩) (Int.le_refl _) h.1 h.2
  simpa using this
theorem str_append (l m : List UInt8) : ByteArray.mk l.toArray ++ ByteArray.mk m.toArray = ByteArray.mk (l ++ m).toArray := by
  apply ByteArray.ext
  simp
theorem op_sadd {x y : Operand} {l m : List UInt8} {xt yt : TypeId} (hx : Opd E x = some (Is (str l))) (hy : Opd E y = some (Is (str m))) (h : (l.length : Int) + (m.length : Int) ≤ 9223372036854775807) : OpP P L E ⟨dst, .binOp .add xt x y yt, ty, pos, after, gd⟩ (Is (str (l ++ m))) :=
  OpP.same fun a w G S _ _ ho => by
    have h1 : a.eval x = str l := ho x (by simp [Op.operands]) _ hx
    have h2 : a.eval y = str m := ho y (by simp [Op.operands]) _ hy
    refine ⟨_, ?_, rfl⟩
    simp only [execOp, h1, h2]
    have hmax : IntKind.i64.max = 9223372036854775807 := by decide
    have hno : ¬ (((l.length + m.length : Nat) : Int) > 9223372036854775807) := by omega
    have hs := str_append l m
    simp only [eqGuard, binOp, str, Op.stringOp, size_str, hmax, if_neg hno, hs]
    simp
/-- The order of texts. -/
abbrev sless (l m : List UInt8) : Bool := Op.bytesLess l m
theorem str_toList (l : List UInt8) : (ByteArray.mk l.toArray).toList = l := by rw [ByteArray.toList_eq]
theorem op_slss {x y : Operand} {l m : List UInt8} {xt yt : TypeId} (hx : Opd E x = some (Is (str l))) (hy : Opd E y = some (Is (str m))) : OpP P L E ⟨dst, .binOp .lss xt x y yt, ty, pos, after, gd⟩ (Is (.bool (sless l m))) :=
  OpP.same fun a w G S _ _ ho => by
    have h1 : a.eval x = str l := ho x (by simp [Op.operands]) _ hx
    have h2 : a.eval y = str m := ho y (by simp [Op.operands]) _ hy
    refine ⟨_, ?_, rfl⟩
    simp only [execOp, h1, h2]
    simp [eqGuard, binOp, str, Op.stringOp, str_toList]
theorem op_sleq {x y : Operand} {l m : List UInt8} {xt yt : TypeId} (hx : Opd E x = some (Is (str l))) (hy : Opd E y = some (Is (str m))) : OpP P L E ⟨dst, .binOp .leq xt x y yt, ty, pos, after, gd⟩ (Is (.bool (sless l m || l == m))) :=
  OpP.same fun a w G S _ _ ho => by
    have h1 : a.eval x = str l := ho x (by simp [Op.operands]) _ hx
    have h2 : a.eval y = str m := ho y (by simp [Op.operands]) _ hy
    refine ⟨_, ?_, rfl⟩
    simp only [execOp, h1, h2]
    simp [eqGuard, binOp, str, Op.stringOp, str_toList]
theorem op_sgtr {x y : Operand} {l m : List UInt8} {xt yt : TypeId} (hx : Opd E x = some (Is (str l))) (hy : Opd E y = some (Is (str m))) : OpP P L E ⟨dst, .binOp .gtr xt x y yt, ty, pos, after, gd⟩ (Is (.bool (!(sless l m || l == m)))) :=
  OpP.same fun a w G S _ _ ho => by
    have h1 : a.eval x = str l := ho x (by simp [Op.operands]) _ hx
    have h2 : a.eval y = str m := ho y (by simp [Op.operands]) _ hy
    refine ⟨_, ?_, rfl⟩
    simp only [execOp, h1, h2]
    simp [eqGuard, binOp, str, Op.stringOp, str_toList]
theorem op_sgeq {x y : Operand} {l m : List UInt8} {xt yt : TypeId} (hx : Opd E x = some (Is (str l))) (hy : Opd E y = some (Is (str m))) : OpP P L E ⟨dst, .binOp .geq xt x y yt, ty, pos, after, gd⟩ (Is (.bool (!sless l m))) :=
  OpP.same fun a w G S _ _ ho => by
    have h1 : a.eval x = str l := ho x (by simp [Op.operands]) _ hx
    have h2 : a.eval y = str m := ho y (by simp [Op.operands]) _ hy
    refine ⟨_, ?_, rfl⟩
    simp only [execOp, h1, h2]
    simp [eqGuard, binOp, str, Op.stringOp, str_toList]

/-! ### structs by value -/
theorem run_partAt {t : TypeId} {cs : Array Value} {off : Nat} {v : Value} (w : World) (hag : aggB P t = some false) (h : cs[off]? = some v) : (part t cs off).run P w = .ok v w := by
  unfold part
  simp [run_isAgg hag, h]
/-- A field's type and offset. -/
def fieldAtT (P : Program) (s : TypeId) (i : Nat) : Option (TypeId × Nat) :=
  match P.underlying s with
  | some (.struct fields) => (fields[i]?).map fun f => (f.type, f.offset)
  | _ => none
theorem run_field {s ft : TypeId} {i off : Nat} (w : World) (h : fieldAtT P s i = some (ft, off)) (cs : Array Value) : (Instr.field s (.agg cs) i).run P w = (part ft cs off).run P w := by
  unfold fieldAtT at h
  cases hu : P.underlying s with
  | none => rw [hu] at h; cases h
  | some d =>
    rw [hu] at h
    cases d <;> try (simp at h)
    rename_i fields
    cases hf : fields[i]? with
    | none => rw [hf] at h; simp at h
    | some f =>
      rw [hf] at h
      simp at h
      obtain ⟨rfl, rfl⟩ := h
      simp only [Instr.field, Sem.run_bind, run_underlying hu, Result.andThen_ok, hf, asAgg, Sem.run_pure]
theorem op_field1 {x : Operand} {ts : List Ty} {s ft : TypeId} {i off : Nat} {T : Ty} (hx : Opd E x = some (TAgg ts)) (hf : fieldAtT P s i = some (ft, off)) (hag : aggB P ft = some false) (hT : ts[off]? = some T) : OpP P L E ⟨dst, .field s x i, ty, pos, after, gd⟩ T :=
  OpP.same fun a w G S _ _ ho => by
    obtain ⟨vs, h1, h2, h3⟩ := ho x (by simp [Op.operands]) _ hx
    have hlt := (List.getElem?_eq_some_iff.1 hT).1
    obtain ⟨u, hu⟩ : ∃ u, vs[off]? = some u := ⟨_, List.getElem?_eq_getElem (by omega)⟩
    refine ⟨u, ?_, (h3 off T u hT hu).1⟩
    simp only [execOp, h1]
    simp [run_field w hf, run_partAt w hag (show vs.toArray[off]? = some u by simpa using hu)]
theorem op_fieldA {x : Operand} {ts ts' : List Ty} {s ft : TypeId} {i off n : Nat} (hx : Opd E x = some (TAgg ts)) (hf : fieldAtT P s i = some (ft, off)) (hag : aggB P ft = some true) (hsz : (P.info? ft).map (·.size) = some n) (hT : (ts.drop off).take n = ts') (hn : ts'.length = n) : OpP P L E ⟨dst, .field s x i, ty, pos, after, gd⟩ (TAgg ts') :=
  OpP.same fun a w G S _ _ ho => by
    obtain ⟨vs, h1, h2, h3⟩ := ho x (by simp [Op.operands]) _ hx
    refine ⟨.agg ((vs.drop off).take n).toArray, ?_, _, rfl, ?_, ?_⟩
    · simp only [execOp, h1]
      simp [run_field w hf, part, run_isAgg hag, run_sizeOf hsz]
    · have := congrArg List.length hT
      simp only [List.length_take, List.length_drop] at this ⊢
      omega
    · intro j T u e1 e2
      subst hT
      rw [List.getElem?_take] at e1 e2
      split at e1
      · rw [List.getElem?_drop] at e1
        rw [if_pos (by assumption), List.getElem?_drop] at e2
        exact h3 _ _ _ e1 e2
      · cases e1

/-- Where a part of a struct or an array lies, and how many cells it has. -/
def placeOf (P : Program) (t : TypeId) (i : Nat) : Option (Nat × Nat) :=
  match P.underlying t with
  | some (.struct fields) => (fields[i]?).bind fun f => (P.info? f.type).map fun inf => (f.offset, inf.size)
  | some (.array _ e) => (P.info? e).map fun inf => (i * inf.size, inf.size)
  | _ => none
def placesOk (P : Program) (t : TypeId) : Bool :=
  match P.underlying t with
  | some (.struct fields) => fields.toList.all fun f => (P.info? f.type).isSome
  | some (.array _ e) => (P.info? e).isSome
  | _ => false
def segT (ts : List Ty) (off : Nat) (cts : List Ty) : List Ty := ts.take off ++ cts ++ ts.drop (off + cts.length)
def BuildOk (P : Program) (E : Env) (t : TypeId) : List (Nat × Operand) → List Ty → List Ty → Prop
  | [], ts, ts' => ts = ts'
  | (i, x) :: r, ts, ts' => ∃ T cts off, Opd E x = some T ∧ CellsOf T cts ∧ placeOf P t i = some (off, cts.length) ∧ Nat.ble (off + cts.length) ts.length = true ∧ BuildOk P E t r (segT ts off cts) ts'
theorem BuildOk.nil {t : TypeId} {ts : List Ty} : BuildOk P E t [] ts ts := rfl
theorem BuildOk.cons {t : TypeId} {i : Nat} {x : Operand} {r : List (Nat × Operand)} {ts ts1 ts' : List Ty} {T : Ty} {cts : List Ty} {off : Nat} (hx : Opd E x = some T) (hc : CellsOf T cts) (hp : placeOf P t i = some (off, cts.length)) (hl : Nat.ble (off + cts.length) ts.length = true) (hs : segT ts off cts = ts1) (k : BuildOk P E t r ts1 ts') : BuildOk P E t ((i, x) :: r) ts ts' :=
  ⟨T, cts, off, hx, hc, hp, hl, by rw [hs]; exact k⟩

/-- Cells that are as types say. -/
def CellsT (G : Imm) (cs : Array Value) (ts : List Ty) : Prop := cs.size = ts.length ∧ ∀ (j : Nat) (T : Ty), ts[j]? = some T → ∃ u, cs[j]? = some u ∧ T.p G u ∧ u.oneCell' = true
theorem CellsT.seg {G : Imm} {cs : Array Value} {ts cts : List Ty} {vs : List Value} {off : Nat} (h : CellsT G cs ts) (hl : vs.length = cts.length) (hv : ∀ (j : Nat) (U : Ty) (u : Value), cts[j]? = some U → vs[j]? = some u → U.p G u ∧ u.oneCell' = true) (hle : off + cts.length ≤ ts.length) :
    CellsT G ((vs.zipIdx 0).foldl (fun cs (x : Value × Nat) => cs.setIfInBounds (off + x.2) x.1) cs) (segT ts off cts) := by
  obtain ⟨g1, g2⟩ := foldl_set off vs 0 cs
  obtain ⟨h1, h2⟩ := h
  refine ⟨by rw [g1, h1, segT]; simp; omega, fun j T hj => ?_⟩
  rw [g2 j]
  unfold segT at hj
  rw [List.append_assoc, List.getElem?_append] at hj
  simp only [List.length_take, Nat.add_zero] at hj ⊢
  by_cases hjo : j < off
  · rw [if_pos (by omega), List.getElem?_take, if_pos hjo] at hj
    rw [if_neg (by omega)]
    exact h2 j T hj
  · rw [if_neg (by omega), show min off ts.length = off from by omega, List.getElem?_append] at hj
    by_cases hjn : j - off < cts.length
    · rw [if_pos hjn] at hj
      rw [if_pos (by omega)]
      obtain ⟨u, hu⟩ : ∃ u, vs[j - off]? = some u := ⟨_, List.getElem?_eq_getElem (by omega)⟩
      exact ⟨u, hu, hv _ _ _ hj hu⟩
    · rw [if_neg hjn, List.getElem?_drop] at hj
      rw [if_neg (by omega)]
      obtain ⟨u, b⟩ := h2 _ T hj
      exact ⟨u, by rw [← b.1]; congr 1; omega, b.2⟩
theorem BuildOk.fill {t : TypeId} {G : Imm} {a : Act} (place : Nat → Option (Nat × Nat)) (hplace : ∀ i p, placeOf P t i = some p → place i = some p) : ∀ (ps : List (Nat × Operand)) (ts ts' : List Ty) (cs : Array Value), BuildOk P E t ps ts ts' → (∀ q ∈ ps, ∀ T, Opd E q.2 = some T → T.p G (a.eval q.2)) → CellsT G cs ts →
    ∃ cs', Instr.fill place cs (ps.map fun q => (q.1, a.eval q.2)) = some cs' ∧ CellsT G cs' ts'
  | [], ts, ts', cs, h, _, hc => by cases h; exact ⟨cs, rfl, hc⟩
  | (i, x) :: r, ts, ts', cs, ⟨T, cts, off, hx, hcT, hp, hl, k⟩, ho, hc => by
    have hv := ho (i, x) (by simp) T hx
    obtain ⟨h1, h2⟩ := hcT G _ hv
    have hl' := Nat.le_of_ble_eq_true hl
    have hsize : (a.eval x).cells.size = cts.length := by simpa using h1
    have hseg := hc.seg (vs := (a.eval x).cells.toList) (off := off) h1 h2 hl'
    obtain ⟨cs', h3, h4⟩ := BuildOk.fill place hplace r _ ts' _ k (fun q hq => ho q (by simp [hq])) hseg
    refine ⟨cs', ?_, h4⟩
    simp only [List.map_cons, Instr.fill, hplace i _ hp]
    rw [if_neg (by simp only [hsize, hc.1]; simp; omega)]
    have hz : (a.eval x).cells.zipIdx.foldl (fun cs (y : Value × Nat) => cs.setIfInBounds (off + y.2) y.1) cs = ((a.eval x).cells.toList.zipIdx 0).foldl (fun cs (y : Value × Nat) => cs.setIfInBounds (off + y.2) y.1) cs := by
      rw [← Array.foldl_toList]; simp
    rw [hz]; exact h3
theorem run_places {fields : Array Field} (w : World) (h : (fields.toList.all fun f => (P.info? f.type).isSome) = true) : ∃ pl : Array (Nat × Nat), (fields.mapM fun f : Field => do pure (f.offset, ← sizeOf f.type) : Sem _).run P w = .ok pl w ∧ ∀ (i : Nat) p, (fields[i]?).bind (fun f : Field => (P.info? f.type).map fun inf => (f.offset, inf.size)) = some p → pl[i]? = some p := by
  have key : ∀ l : List Field, (l.all fun f => (P.info? f.type).isSome) = true → ∃ pl : List (Nat × Nat), (List.mapM (fun f : Field => do pure (f.offset, ← sizeOf f.type)) l : Sem _).run P w = .ok pl w ∧ ∀ (i : Nat) p, (l[i]?).bind (fun f : Field => (P.info? f.type).map fun inf => (f.offset, inf.size)) = some p → pl[i]? = some p := by
    intro l
    induction l with
    | nil => intro _; exact ⟨[], by simp, by simp⟩
    | cons f l ih =>
      intro h
      simp only [List.all_cons, Bool.and_eq_true] at h
      obtain ⟨pl, h1, h2⟩ := ih h.2
      obtain ⟨inf, hi⟩ := Option.isSome_iff_exists.1 h.1
      refine ⟨(f.offset, inf.size) :: pl, ?_, ?_⟩
      · simp only [List.mapM_cons, Sem.run_bind, run_sizeOf (P := P) (t := f.type) (n := inf.size) (by rw [hi]; rfl) w, Result.andThen_ok, Sem.run_pure, h1]
      · intro i p e
        cases i with
        | zero => simp [hi] at e; simp [e]
        | succ i => simpa using h2 i p (by simpa using e)
  obtain ⟨pl, h1, h2⟩ := key fields.toList h
  refine ⟨pl.toArray, ?_, fun i p e => by simpa using h2 i p (by simpa using e)⟩
  rw [← Array.toArray_toList (xs := fields), List.mapM_toArray, Sem.run_map, h1]
  rfl
theorem op_build {t : TypeId} {parts : Array (Nat × Operand)} {z : Value} {zs : List Value} {ts ts' : List Ty} (hz : (P.info? t).map (·.zero) = some (some z)) (hc : z.cells.toList = zs) (ht : LitT zs ts) (hok : placesOk P t = true) (hb : BuildOk P E t parts.toList ts ts') : OpP P L E ⟨dst, .build t parts, ty, pos, after, gd⟩ (TAgg ts') :=
  OpP.same fun a w G S _ _ ho => by
    obtain ⟨l1, l2⟩ := LitT.at zs ts ht
    have hcells : CellsT G z.cells ts := by
      refine ⟨by rw [← Array.length_toList, hc, l1], fun j T hj => ?_⟩
      obtain ⟨u, b1, b2, b3⟩ := l2 j T hj
      exact ⟨u, by rw [← hc] at b1; simpa using b1, T.mono (fun _ _ _ h => by cases h) b2, b3⟩
    have hops : ∀ q ∈ parts.toList, ∀ T, Opd E q.2 = some T → T.p G (a.eval q.2) := fun q hq T hT => ho q.2 (by
      have hq' : q.2 ∈ partsOf parts := List.mem_map.2 ⟨q, hq, rfl⟩
      simp only [Op.operands]
      simpa [partsOf] using hq') T hT
    have hpl : (parts.map fun (i, x) => (i, a.eval x)).toList = parts.toList.map fun q => (q.1, a.eval q.2) := by simp
    have fin : ∀ (cs' : Array Value), CellsT G cs' ts' → (TAgg ts').p G (.agg cs') := fun cs' h => ⟨cs'.toList, by simp, by simpa using h.1, fun j T u e1 e2 => by
      obtain ⟨u', b1, b2⟩ := h.2 j T e1
      have e3 : cs'[j]? = some u := by simpa using e2
      rw [b1] at e3; cases e3; exact b2⟩
    unfold placesOk at hok
    cases hu : P.underlying t with
    | none => rw [hu] at hok; cases hok
    | some d =>
      rw [hu] at hok
      cases d <;> try (simp at hok; done)
      · rename_i n e
        obtain ⟨inf, hinf⟩ := Option.isSome_iff_exists.1 hok
        obtain ⟨cs', h1, h2⟩ := hb.fill (a := a) (G := G) (fun i => some (i * inf.size, inf.size)) (fun i p e' => by
          unfold placeOf at e'; rw [hu] at e'; simpa [hinf] using e') _ _ _ _ hops hcells
        refine ⟨.agg cs', ?_, fin _ h2⟩
        rw [← hpl] at h1
        simp only [execOp]
        simp only [Instr.build, Sem.run_bind, run_zeroValue hz, Result.andThen_ok, run_underlying hu, run_sizeOf (P := P) (t := e) (n := inf.size) (by rw [hinf]; rfl), h1, Sem.run_pure]
      · rename_i fields
        obtain ⟨pl, p1, p2⟩ := run_places (P := P) w hok
        obtain ⟨cs', h1, h2⟩ := hb.fill (a := a) (G := G) (fun i => pl[i]?) (fun i p e' => by
          unfold placeOf at e'; rw [hu] at e'; exact p2 i p e') _ _ _ _ hops hcells
        refine ⟨.agg cs', ?_, fin _ h2⟩
        rw [← hpl] at h1
        simp only [execOp]
        simp only [Instr.build, Sem.run_bind, run_zeroValue hz, Result.andThen_ok, run_underlying hu, p1, h1, Sem.run_pure]
end
end Go.Vk
set_option linter.unusedVariables false
namespace Go.Vk
section
variable {P : Program} {L : List Res} {E : Env} {dst : Option Tmp} {ty : TypeId} {pos : String} {after : Array Edge} {gd : Option (Nat × Bool)}
/-- []byte(s). -/
theorem op_bytesOf {x : Operand} {l : List UInt8} {st dt e : TypeId} (hx : Opd E x = some (Is (str l))) (hs : P.underlying st = some .string) (hd : P.underlying dt = some (.slice e)) (he : P.underlying e = some (.int .u8)) (hl : (l.length : Int) ≤ 9223372036854775807) :
    OpP P L E ⟨dst, .convert st dt x, ty, pos, after, gd⟩ (TBytes l) :=
  OpP.laid fun a w G S hsat _ ho => by
    have h1 : a.eval x = str l := ho x (by simp [Op.operands]) _ hx
    have hr := run_bytes_of_string (P := P) w st dt e (ByteArray.mk l.toArray) hs hd he
    rw [size_str] at hr
    have hge := grownCap_ge w l.length 0 e
    have hcm := grownCap_le_maxLen w l.length 0 e (by simp only [maxLen]; omega)
    obtain ⟨hext, hsl, _⟩ := fresh_sl (f := cB) (sz := 1) (l := l) (vs := l.map fun c => Value.int .u8 (c.toNat : Int)) (cap := grownCap w l.length 0 e) (e := e)
      (cells := bytesRow (ByteArray.mk l.toArray) (grownCap w l.length 0 e)) (fr := ((bytesRow (ByteArray.mk l.toArray) (grownCap w l.length 0 e)).size, (bytesRow (ByteArray.mk l.toArray) (grownCap w l.length 0 e)).size + 1))
      (w1 := w.drew.alloc (.cells (bytesRow (ByteArray.mk l.toArray) (grownCap w l.length 0 e)) e ((bytesRow (ByteArray.mk l.toArray) (grownCap w l.length 0 e)).size, (bytesRow (ByteArray.mk l.toArray) (grownCap w l.length 0 e)).size + 1)))
      hsat rfl rfl rfl rfl (by simp [bytesRow]) hge hcm (by simp) (fun y _ => rfl) (fun i y hy j T hj => by
        cases j with
        | succ j => simp [cB] at hj
        | zero =>
          simp [cB] at hj; subst hj
          exact ⟨.int .u8 (y.toNat : Int), by simp [hy], rfl, rfl⟩)
    refine ⟨_, _, _, ?_, hext, hsl false (fun e => by cases e)⟩
    simp only [execOp, h1, str]
    simp [hr]

/-! ### equality of structs -/
/-- Two fields of one cell: whether they are one. -/
structure FEq (P : Program) (ft : TypeId) (T U : Ty) (b : Bool) : Prop where
  ag : aggB P ft = some false
  eq : ∀ G u v (w : World) (d : Nat), T.p G u → U.p G v → (Op.equalIn (d + 1) ft u v).run P w = .ok b w
theorem FEq.int {ft : TypeId} {k k' : IntKind} {m n : Int} (hu : P.underlying ft = some (.int k')) : FEq P ft (okI k m) (okI k n) (decide (m = n)) :=
  ⟨by simp [aggB, hu], fun G u v w d h1 h2 => by cases h1; cases h2; rw [run_equalIn_int w d ft k k' m n hu]; rfl⟩
theorem FEq.bool {ft : TypeId} {m n : Bool} (hu : P.underlying ft = some .bool) : FEq P ft (Is (.bool m)) (Is (.bool n)) (m == n) :=
  ⟨by simp [aggB, hu], fun G u v w d h1 h2 => by cases h1; cases h2; exact run_equalIn_bool' w d ft m n hu⟩
theorem FEq.str {ft : TypeId} {m n : List UInt8} (hu : P.underlying ft = some .string) : FEq P ft (Is (str m)) (Is (str n)) (decide (m = n)) :=
  ⟨by simp [aggB, hu], fun G u v w d h1 h2 => by
    cases h1; cases h2
    have := run_equalIn_string (P := P) w d ft (ByteArray.mk m.toArray) (ByteArray.mk n.toArray) hu
    rw [str_toList, str_toList] at this
    rw [show Vk.str m = Value.string (ByteArray.mk m.toArray) from rfl, show Vk.str n = Value.string (ByteArray.mk n.toArray) from rfl, this]
    by_cases h : m = n <;> simp [h]⟩
def FEqs (P : Program) : List Field → Nat → List Ty → List Ty → List Bool → Prop
  | [], _, [], [], [] => True
  | f :: fs, j, T :: ts, U :: us, b :: bs => (f.name ≠ "_" ∧ f.offset = j) ∧ FEq P f.type T U b ∧ FEqs P fs (j + 1) ts us bs
  | _, _, _, _, _ => False
theorem FEqs.nil {j : Nat} : FEqs P [] j [] [] [] := trivial
theorem FEqs.cons {f : Field} {fs : List Field} {j : Nat} {T U : Ty} {ts us : List Ty} {b : Bool} {bs : List Bool} (h1 : (f.name == "_") = false) (h2 : f.offset = j) (h : FEq P f.type T U b) (k : FEqs P fs (j + 1) ts us bs) : FEqs P (f :: fs) j (T :: ts) (U :: us) (b :: bs) := ⟨⟨fun e => by rw [e] at h1; simp at h1, h2⟩, h, k⟩
def allB : List Bool → Bool
  | [] => true
  | [b] => b
  | b :: bs => b && allB bs
theorem allB_cons (b : Bool) (bs : List Bool) : allB (b :: bs) = (b && allB bs) := by cases bs <;> simp [allB]
theorem FEqs.run {G : Imm} {w : World} {d : Nat} {xs ys : Array Value} : ∀ (fs : List Field) (j : Nat) (ts us : List Ty) (bs : List Bool), FEqs P fs j ts us bs →
    (∀ (i : Nat) (T : Ty), ts[i]? = some T → ∃ u, xs[j + i]? = some u ∧ T.p G u) → (∀ (i : Nat) (T : Ty), us[i]? = some T → ∃ u, ys[j + i]? = some u ∧ T.p G u) → (Op.eqFields (d + 1) xs ys fs).run P w = .ok (allB bs) w
  | [], _, [], [], [], _, _, _ => by simp [Op.eqFields, allB]
  | f :: fs, j, T :: ts, U :: us, b :: bs, ⟨⟨h1, h2⟩, h, k⟩, hx, hy => by
    obtain ⟨u, hu, hTu⟩ := hx 0 T rfl
    obtain ⟨v, hv, hUv⟩ := hy 0 U rfl
    have ih := FEqs.run (w := w) (d := d) fs (j + 1) ts us bs k (fun i T' e => by
      obtain ⟨u', a, b⟩ := hx (i + 1) T' (by simpa using e)
      exact ⟨u', by rw [show j + 1 + i = j + (i + 1) from by omega]; exact a, b⟩) (fun i T' e => by
      obtain ⟨u', a, b⟩ := hy (i + 1) T' (by simpa using e)
      exact ⟨u', by rw [show j + 1 + i = j + (i + 1) from by omega]; exact a, b⟩)
    simp only [Nat.add_zero] at hu hv
    subst h2
    rw [allB_cons]
    simp only [Op.eqFields, if_pos h1, Sem.run_bind, run_partAt w h.ag hu, run_partAt w h.ag hv, Result.andThen_ok, h.eq G u v w d hTu hUv]
    cases b
    · simp
    · simp [ih]
theorem run_eqAgg {t : TypeId} {fs : List Field} {ts us : List Ty} {bs : List Bool} {G : Imm} {w : World} {xs ys : List Value} (hu : P.underlying t = some (.struct (P.fieldsOf t))) (hp : P.stoodInHeld t = false) (hfs : (P.fieldsOf t).toList = fs) (h : FEqs P fs 0 ts us bs)
    (hx : (TAgg ts).p G (.agg xs.toArray)) (hy : (TAgg us).p G (.agg ys.toArray)) : (Op.equalIn 10000 t (.agg xs.toArray) (.agg ys.toArray)).run P w = .ok (allB bs) w := by
  have hc : ∀ (ts : List Ty) (xs : List Value), (TAgg ts).p G (.agg xs.toArray) → ∀ (i : Nat) (T : Ty), ts[i]? = some T → ∃ u, xs.toArray[0 + i]? = some u ∧ T.p G u := by
    rintro ts xs ⟨vs, e, hl, hv⟩ i T hi
    have hilt := (List.getElem?_eq_some_iff.1 hi).1
    have : xs = vs := by simpa using e
    subst this
    obtain ⟨u, hu⟩ : ∃ u, xs[i]? = some u := ⟨_, List.getElem?_eq_getElem (by omega)⟩
    exact ⟨u, by simpa using hu, (hv i T u hi hu).1⟩
  rw [show (10000 : Nat) = 9998 + 1 + 1 from rfl, run_equalIn_struct w (9998 + 1) t _ _ hu hp, hfs]
  exact FEqs.run fs 0 ts us bs h (hc ts xs hx) (hc us ys hy)
theorem op_eqAgg {x y : Operand} {ts us : List Ty} {bs : List Bool} {t yt : TypeId} {fs : List Field} (hx : Opd E x = some (TAgg ts)) (hy : Opd E y = some (TAgg us)) (hu : P.underlying t = some (.struct (P.fieldsOf t))) (hp : P.stoodInHeld t = false) (hm : P.eqGuardType P.depth t = false) (hfs : (P.fieldsOf t).toList = fs) (h : FEqs P fs 0 ts us bs) :
    OpP P L E ⟨dst, .binOp .eql t x y yt, ty, pos, after, gd⟩ (Is (.bool (allB bs))) :=
  OpP.same fun a w G S _ _ ho => by
    have h1 := ho x (by simp [Op.operands]) _ hx
    have h2 := ho y (by simp [Op.operands]) _ hy
    obtain ⟨xs, e1, _⟩ := id h1
    obtain ⟨ys, e2, _⟩ := id h2
    rw [e1] at h1
    rw [e2] at h2
    refine ⟨.bool (allB bs), ?_, rfl⟩
    have hr := run_eqAgg (w := w) hu hp hfs h h1 h2
    simp only [execOp, e1, e2, Sem.run_bind, run_eqGuard_agg w .eql t x y _ _ hm, Result.andThen_ok, run_eql_struct, hr, Sem.run_pure]
theorem op_neAgg {x y : Operand} {ts us : List Ty} {bs : List Bool} {t yt : TypeId} {fs : List Field} (hx : Opd E x = some (TAgg ts)) (hy : Opd E y = some (TAgg us)) (hu : P.underlying t = some (.struct (P.fieldsOf t))) (hp : P.stoodInHeld t = false) (hm : P.eqGuardType P.depth t = false) (hfs : (P.fieldsOf t).toList = fs) (h : FEqs P fs 0 ts us bs) :
    OpP P L E ⟨dst, .binOp .neq t x y yt, ty, pos, after, gd⟩ (Is (.bool (!allB bs))) :=
  OpP.same fun a w G S _ _ ho => by
    have h1 := ho x (by simp [Op.operands]) _ hx
    have h2 := ho y (by simp [Op.operands]) _ hy
    obtain ⟨xs, e1, _⟩ := id h1
    obtain ⟨ys, e2, _⟩ := id h2
    rw [e1] at h1
    rw [e2] at h2
    refine ⟨.bool (!allB bs), ?_, rfl⟩
    have hr := run_eqAgg (w := w) hu hp hfs h h1 h2
    simp only [execOp, e1, e2, Sem.run_bind, run_eqGuard_agg w .neq t x y _ _ hm, Result.andThen_ok, run_neq_struct, hr, Sem.run_pure]

/-! ### functions as values -/
def FnP (f : FuncId) (Cs : List Ty) (G : Imm) (v : Value) : Prop := ∃ vs : List Value, v = .func (.func f) #[] vs.toArray ∧ ArgsT G Cs vs
theorem ArgsT.mono {G G' : Imm} (h : Imm.le G G') : ∀ {A : List Ty} {vs : List Value}, ArgsT G A vs → ArgsT G' A vs
  | [], [], _ => trivial
  | T :: A, v :: vs, ⟨h1, h2⟩ => ⟨T.mono h h1, ArgsT.mono h h2⟩
  | [], _ :: _, h' => h'.elim
  | _ :: _, [], h' => h'.elim
theorem ArgsT.append {G : Imm} : ∀ {A B : List Ty} {vs us : List Value}, ArgsT G A vs → ArgsT G B us → ArgsT G (A ++ B) (vs ++ us)
  | [], _, [], _, _, h => h
  | _ :: _, _, _ :: _, _, ⟨h1, h2⟩, h => ⟨h1, ArgsT.append h2 h⟩
  | [], _, _ :: _, _, h', _ => h'.elim
  | _ :: _, _, [], _, h', _ => h'.elim
/-- A function's value: which function, and what it has captured. -/
def TFn (f : FuncId) (Cs : List Ty) : Ty := ⟨FnP f Cs, fun h ⟨vs, e, k⟩ => ⟨vs, e, k.mono h⟩⟩
theorem Sub.fn (f : FuncId) : Sub (Is (.func (.func f) #[] #[])) (TFn f []) := fun G v h => by cases h; exact ⟨[], rfl, trivial⟩
theorem CellsOf.fn (f : FuncId) (Cs : List Ty) : CellsOf (TFn f Cs) [TFn f Cs] := .one fun G v ⟨vs, e, _⟩ => by subst e; exact ⟨rfl, rfl⟩
theorem One.fn (f : FuncId) (Cs : List Ty) : One (TFn f Cs) := fun _ _ ⟨_, e, _⟩ => by rw [e]; rfl
theorem op_makeFunc {f : FuncId} {xs : List Operand} {Cs : List Ty} (hx : Opds E xs Cs) : OpP P L E ⟨dst, .makeFunc (.func f) #[] xs.toArray, ty, pos, after, gd⟩ (TFn f Cs) :=
  OpP.same fun a w G S _ _ ho => by
    have h := Opds.args (G := G) (a := a) xs Cs hx (fun x hx' => ho x (by simp [Op.operands, hx']))
    exact ⟨.func (.func f) #[] (xs.map a.eval).toArray, by simp [execOp, Instr.makeFunc], _, rfl, h⟩
theorem exCallV {f : FuncId} {A Cs : List Ty} {T : Ty} {t : Tmp} {xs : List Operand} {tys : Array TypeId} {c : Prop} {K : Ty → Prop} (ht : E.get t = some (TFn f Cs)) (hx : Opds E xs A) (hf : c → CFn P f (A ++ Cs) T) (k : K T) :
    ∃ T, (c → OpP P L E ⟨dst, .call { callee := .value (.tmp t), args := xs.toArray, argTypes := tys }, ty, pos, after, gd⟩ T) ∧ K T := by
  refine ⟨T, fun hc => ?_, k⟩
  intro a w G S hs ho htt K Q k
  have hf := hf hc
  obtain ⟨vs, e, hvs⟩ := htt (.tmp t) (by simp [Op.operands, Call.operands]) _ ht
  have hargs := Opds.args (G := G) (a := a) xs A hx (fun x hx' => htt x (by simp [Op.operands, Call.operands, hx']))
  have hrun : (execOp a.eval (⟨dst, .call { callee := .value (.tmp t), args := xs.toArray, argTypes := tys }, ty, pos, after, gd⟩ : Oper)).run P w = .ok (.enter f ((xs.map a.eval) ++ vs).toArray) w := by
    simp [execOp, resolve, Deferred.ofValue, e, invoke, hf.enter]
  simp only [Oper.wp, hrun, Oper.upon_enter]
  refine (hf.calls _ w G _ hs (Owns.none G w) (hargs.append hvs)).mono ?_
  rintro e w' ⟨v, G', S', rfl, hext, -, -, hT⟩
  exact k v w' G' ⟨hext.sat, hext.le, hext.os, hext.tape, hext.output, hext.size, fun b hb _ => hext.blk b hb (fun ⟨_, h⟩ => h)⟩ hT

/-! ### least and greatest -/
theorem op_min {x y : Operand} {k : IntKind} {m n : Int} {tys : Array TypeId} (hx : Opd E x = some (okI k m)) (hy : Opd E y = some (okI k n)) : OpP P L E ⟨dst, .call { callee := .builtin .min, args := #[x, y], argTypes := tys }, ty, pos, after, gd⟩ (okI k (if n < m then n else m)) :=
  OpP.same fun a w G S _ _ ho => by
    have h1 : a.eval x = .int k m := ho x (by simp [Op.operands, Call.operands]) _ hx
    have h2 : a.eval y = .int k n := ho y (by simp [Op.operands, Call.operands]) _ hy
    exact ⟨_, by simp [execOp, resolve, invoke, builtin, Builtin.min_, Builtin.min2, h1, h2], rfl⟩
theorem op_max {x y : Operand} {k : IntKind} {m n : Int} {tys : Array TypeId} (hx : Opd E x = some (okI k m)) (hy : Opd E y = some (okI k n)) : OpP P L E ⟨dst, .call { callee := .builtin .max, args := #[x, y], argTypes := tys }, ty, pos, after, gd⟩ (okI k (if m < n then n else m)) :=
  OpP.same fun a w G S _ _ ho => by
    have h1 : a.eval x = .int k m := ho x (by simp [Op.operands, Call.operands]) _ hx
    have h2 : a.eval y = .int k n := ho y (by simp [Op.operands, Call.operands]) _ hy
    exact ⟨_, by simp [execOp, resolve, invoke, builtin, Builtin.max_, Builtin.max2, h1, h2], rfl⟩
end
end Go.Vk
set_option linter.unusedVariables false
namespace Go.Vk
/-- The variables of these slots are written. -/
structure Mut (ds : List Nat) : Prop where
  t : True
theorem Mut.mk' (ds : List Nat) : Mut ds := ⟨trivial⟩
theorem Sub.agg {ts ts' : List Ty} (h : TsSub ts ts') : Sub (TAgg ts) (TAgg ts') := by
  rintro G v ⟨vs, rfl, hl, k⟩
  obtain ⟨k1, k2⟩ := TsSub.get h
  exact ⟨vs, rfl, by omega, fun j U u e1 e2 => by
    obtain ⟨T, e3, e4⟩ := k2 j U e1
    exact ⟨e4 _ _ (k j T u e3 e2).1, (k j T u e3 e2).2⟩⟩
theorem Sub.nilO {α : Type} {sz : Nat} {f : α → List Ty} {l : List α} (h : [] = l) : Sub (Is (.slice none 0 0)) (TAnd (Is (.slice none 0 0)) (TSl sz f l)) := fun G v k => ⟨k, Sub.nil' h G v k⟩
theorem LitT.nil : LitT [] [] := trivial
theorem LitT.is {v : Value} {vs : List Value} {ts : List Ty} (h : v.oneCell' = true) (k : LitT vs ts) : LitT (v :: vs) (Is v :: ts) := ⟨⟨rfl, h⟩, k⟩
theorem LitT.s0 {v : Value} {vs : List Value} {ts : List Ty} (h : v = str []) (k : LitT vs ts) : LitT (v :: vs) (Is (str []) :: ts) := ⟨⟨h, by rw [h]; rfl⟩, k⟩
theorem isLitT {zs : List Value} {ts : List Ty} (h : LitT zs ts) : LitT zs ts := h
theorem isDist {is : List Nat} (h : distinct is = true) : distinct is = true := h
theorem isTo {L L' : List Res} (h : To L L') : To L L' := h
section
variable {F : FCtx} {E : Env} {L L' : List Res} {Q : Exit → Act → World → Prop} {ops : Array Oper} {rest : List Oper} {d : Nat} {ty : TypeId} {pos : String} {after : Array Edge}
theorem op_appendS {P : Program} {dst : Option Tmp} {gd : Option (Nat × Bool)} {x y : Operand} {α : Type} {sz by_ : Nat} {f : α → List Ty} {l m : List α} {t e : TypeId} {z v : Value} {U : Ty} (i : Nat) (hx : Opd E x = some (TAnd (Is v) (TSl sz f l))) (hy : Opd E y = some U) (hs : Sub U (TSl sz f m)) (hL : L[i]? = some (ownSl v sz e))
    (hu : P.underlying t = some (.slice e)) (hinf : (P.info? e).map (fun i => (i.zero, i.size, i.bytes)) = some (some z, sz, by_)) (hz : z.cells.size = sz) (hb : (l.length + m.length) * by_ ≤ 140737488355328) (hm : l.length + m.length ≤ maxLen) :
    OpC P L E ⟨dst, .call { callee := .builtin .append, args := #[x, y], argTypes := #[t, t] }, ty, pos, after, gd⟩ (fun v' => TAnd (Is v') (TSl sz f (l ++ m))) (fun v' => L.set i (ownSl v' sz e)) := by
  intro a w G S hsat ho ht K Q k
  have hxx := ht x (by simp [Op.operands, Call.operands]) _ hx
  have hyy := hs _ _ (ht y (by simp [Op.operands, Call.operands]) _ hy)
  have hxv : a.eval x = v := hxx.1
  obtain ⟨v', w', G', S', hr, h1, h2, h3, h4⟩ := run_append_res (P := P) (tyy := ty) hu hinf hz hsat ho hL (by rw [← hxv]; exact hxx.2) hyy hb hm
  have : (execOp a.eval (⟨dst, .call { callee := .builtin .append, args := #[x, y], argTypes := #[t, t] }, ty, pos, after, gd⟩ : Oper)).run P w = .ok (.value v') w' := by
    simp only [execOp, resolve]
    simp [invoke, builtin, hxv, hr]
  simp only [Oper.wp, this, Oper.upon_value]
  exact k v' w' G' S' h1 h2 h3 ⟨rfl, h4⟩
theorem PickL.own {is : List Nat} {B : List Res} {g : Nat} {e : TypeId} {ts ts' : List Ty} (i : Nat) (h : L[i]? = some (ownP g e ts)) (hs : TsSub ts ts') (k : PickL L is B) : PickL L (i :: is) (ownP g e ts' :: B) := .cons i h (RSub.own hs) k
theorem PickL.any {is : List Nat} {B : List Res} {R : Res} (i : Nat) (h : L[i]? = some R) (k : PickL L is B) : PickL L (i :: is) (R :: B) := .cons i h (RSub.refl _) k
theorem PickL.sl {is : List Nat} {B : List Res} {v : Value} {sz : Nat} {e : TypeId} (i : Nat) (h : L[i]? = some (ownSl v sz e)) (k : PickL L is B) : PickL L (i :: is) (ownSl v sz e :: B) := .cons i h (RSub.refl _) k
end
section
variable {P : Program} {L L' : List Res} {E : Env} {dst : Option Tmp} {ty : TypeId} {pos : String} {after : Array Edge} {gd : Option (Nat × Bool)}
theorem oc_storeO {x y : Operand} {g o : Nat} {e : TypeId} {ts ts' : List Ty} {T : Ty} {t : TypeId} (i : Nat) (hx : Opd E x = some (Is (pAt g o))) (hL : L[i]? = some (ownP g e ts)) (hy : Opd E y = some T) (h1c : One T) (hsz : (P.info? t).map (·.size) = some 1) (hlt : Nat.blt o ts.length = true) (ht : ts.set o T = ts') (hL' : L.set i (ownP g e ts') = L') :
    OpC P L E ⟨dst, .store t x y, ty, pos, after, gd⟩ (fun v => Is v) (fun _ => L') := op_storeO i hx hy h1c hL hsz hlt ht hL'
theorem oc_storeAO {x y : Operand} {g o n : Nat} {e : TypeId} {ts ts' us : List Ty} {t : TypeId} (i : Nat) (hx : Opd E x = some (Is (pAt g o))) (hL : L[i]? = some (ownP g e ts)) (hy : Opd E y = some (TAgg us)) (hsz : (P.info? t).map (·.size) = some n) (hn : us.length = n) (hlt : Nat.ble (o + n) ts.length = true) (ht : ts.take o ++ us ++ ts.drop (o + n) = ts') (hL' : L.set i (ownP g e ts') = L') :
    OpC P L E ⟨dst, .store t x y, ty, pos, after, gd⟩ (fun v => Is v) (fun _ => L') := op_storeAO i hx hy hL hsz hn hlt ht hL'
theorem oc_alloc {e : TypeId} {z : Value} {zs : List Value} {ts : List Ty} {L' : Nat → List Res} (hz : (P.info? e).map (·.zero) = some (some z)) (hc : z.cells.toList = zs) (ht : LitT zs ts) (hL' : ∀ g, L ++ [ownP g e ts] = L' g) :
    OpC P L E ⟨dst, .alloc e, ty, pos, after, gd⟩ (fun v => Is (pAt (blk v) 0)) (fun v => L' (blk v)) := by
  have := op_alloc (P := P) (L := L) (E := E) (dst := dst) (ty := ty) (pos := pos) (after := after) (gd := gd) hz hc ht
  simpa only [hL'] using this
theorem oc_boxM {x : Operand} {T : Ty} {e : TypeId} {ts : List Ty} {L' : Nat → List Res} {ds : List Nat} {d : Nat} (hm : Mut ds) (hmd : ds.any (Nat.beq d) = true) (hx : Opd E x = some T) (hc : CellsOf T ts) (hL' : ∀ g, L ++ [ownP g e ts] = L' g) :
    OpC P L E ⟨some d, .box e x, ty, pos, after, gd⟩ (fun v => Is (pAt (blk v) 0)) (fun v => L' (blk v)) := by
  have := op_box (P := P) (L := L) (E := E) (e := e) (dst := some d) (ty := ty) (pos := pos) (after := after) (gd := gd) hx hc
  simpa only [hL'] using this
theorem oc_callR {f : FuncId} {A : List Ty} {R : Res} {Li : List Res} {T : Ty} {Lo : List Res} {xs : List Operand} {tys : Array TypeId} {is : List Nat} (hf : CallsC P f A (R :: Li) (fun _ => T) (fun _ => Lo)) (zx : OpdsS E xs A) (zp : PickL L is (R :: Li)) (zd : distinct is = true) (zl : Nat.ble is.length Lo.length = true) (zL : updL L is Lo = L') :
    OpC P L E ⟨dst, .call { callee := .value (.func f), args := xs.toArray, argTypes := tys }, ty, pos, after, gd⟩ (fun _ => T) (fun _ => L') := by
  have := op_callR (P := P) (L := L) (E := E) (dst := dst) (ty := ty) (pos := pos) (after := after) (gd := gd) (tys := tys) hf zx zp zd (fun _ => Nat.le_of_ble_eq_true zl)
  simpa only [zL] using this
/-- A call that hands back a pointer to a new block. -/
theorem oc_callN {f : FuncId} {A : List Ty} {e : TypeId} {ts : List Ty} {xs : List Operand} {tys : Array TypeId} {L' : Nat → List Res} (hf : CallsC P f A [] (fun v => Is (pAt (blk v) 0)) (fun v => [ownP (blk v) e ts])) (zx : OpdsS E xs A) (zL : ∀ g, L ++ [ownP g e ts] = L' g) :
    OpC P L E ⟨dst, .call { callee := .value (.func f), args := xs.toArray, argTypes := tys }, ty, pos, after, gd⟩ (fun v => Is (pAt (blk v) 0)) (fun v => L' (blk v)) := by
  have := op_callR (P := P) (L := L) (E := E) (dst := dst) (ty := ty) (pos := pos) (after := after) (gd := gd) (tys := tys) (is := []) hf zx PickL.nil rfl (fun _ => Nat.zero_le _)
  simpa only [updL, zL] using this
/-- append onto a slice of one's own. -/
theorem oc_appendO {x y : Operand} {α : Type} {sz by_ : Nat} {f : α → List Ty} {l m : List α} {t e : TypeId} {z v : Value} {U : Ty} {L' : Value → List Res} (i : Nat) (hx : Opd E x = some (TAnd (Is v) (TSl sz f l))) (hL : L[i]? = some (ownSl v sz e)) (hy : Opd E y = some U) (hs : Sub U (TSl sz f m))
    (hu : P.underlying t = some (.slice e)) (hinf : (P.info? e).map (fun i => (i.zero, i.size, i.bytes)) = some (some z, sz, by_)) (hz : z.cells.size = sz) (hb : (l.length + m.length) * by_ ≤ 140737488355328 ∧ l.length + m.length ≤ maxLen) (hL' : ∀ v', L.set i (ownSl v' sz e) = L' v') :
    OpC P L E ⟨dst, .call { callee := .builtin .append, args := #[x, y], argTypes := #[t, t] }, ty, pos, after, gd⟩ (fun v' => TAnd (Is v') (TSl sz f (l ++ m))) L' := by
  have := op_appendS (P := P) (L := L) (E := E) (dst := dst) (ty := ty) (pos := pos) (after := after) (gd := gd) i hx hy hs hL hu hinf hz hb.1 hb.2
  simpa only [hL'] using this
/-- append onto nil. -/
theorem oc_appendNil {x y : Operand} {α : Type} {sz by_ : Nat} {f : α → List Ty} {m : List α} {t e : TypeId} {z : Value} {U : Ty} {L' : Value → List Res} (hx : Opd E x = some (Is (.slice none 0 0))) (hy : Opd E y = some U) (hs : Sub U (TSl sz f m))
    (hu : P.underlying t = some (.slice e)) (hinf : (P.info? e).map (fun i => (i.zero, i.size, i.bytes)) = some (some z, sz, by_)) (hz : z.cells.size = sz) (hb : m.length * by_ ≤ 140737488355328 ∧ m.length ≤ maxLen) (hL' : ∀ v', L ++ [ownSl v' sz e] = L' v') :
    OpC P L E ⟨dst, .call { callee := .builtin .append, args := #[x, y], argTypes := #[t, t] }, ty, pos, after, gd⟩ (fun v' => TAnd (Is v') (TSl sz f m)) L' := by
  have hLe : L' = fun v' => L ++ [ownSl v' sz e] := by funext v'; exact (hL' v').symm
  subst hLe
  intro a w G S hsat ho ht K Q k
  -- nil owns nothing: one place more
  have ho' : Owns S (L ++ [ownSl (.slice none 0 0) sz e]) G w := by
    refine ⟨ho.bound, ho.disj, fun i b hb => by have := ho.inL i b hb; simp; omega, fun i r hr => ?_⟩
    by_cases hi : i < L.length
    · rw [List.getElem?_append_left hi] at hr; exact ho.res i r hr
    · have hlt := (List.getElem?_eq_some_iff.1 hr).1
      have hil : i = L.length := by simp at hlt; omega
      subst hil
      simp at hr
      subst hr
      exact .inl ⟨rfl, fun b hb => by have := ho.inL _ b hb; omega⟩
  have hxx : a.eval x = .slice none 0 0 := ht x (by simp [Op.operands, Call.operands]) _ hx
  have hyy := hs _ _ (ht y (by simp [Op.operands, Call.operands]) _ hy)
  obtain ⟨v', w', G', S', hr, h1, h2, h3, h4⟩ := run_append_res (P := P) (tyy := ty) (l := ([] : List α)) (f := f) (i := L.length) hu hinf hz hsat ho' (by simp) (TSlX.sl (nil_sl sz f G)) hyy (by simpa using hb.1) (by simpa using hb.2)
  have : (execOp a.eval (⟨dst, .call { callee := .builtin .append, args := #[x, y], argTypes := #[t, t] }, ty, pos, after, gd⟩ : Oper)).run P w = .ok (.value v') w' := by
    simp only [execOp, resolve]
    simp [invoke, builtin, hxx, hr]
  simp only [Oper.wp, this, Oper.upon_value]
  refine k v' w' G' S' h1 ?_ h3 ⟨rfl, by simpa using h4⟩
  have e : (L ++ [ownSl (.slice none 0 0) sz e]).set L.length (ownSl v' sz e) = L ++ [ownSl v' sz e] := by
    rw [List.set_append_right _ _ (Nat.le_refl _)]; simp
  show Owns S' (L ++ [ownSl v' sz _]) G' w'
  rw [← e]; exact h2
end
def endB : Exit → Bool
  | .ret => true
  | .normal => true
  | _ => false
theorem endB.or {e : Exit} (h : endB e = true) : e = .ret ∨ e = .normal := by cases e <;> simp [endB] at h <;> simp
section
variable {P : Program} {L : List Res} {E : Env} {fn : Func} {w0 : World} {G0 : Imm} {S0 : Nat → Nat → Prop} {N : Nat}
theorem HX.fin1 {x : Exit} (he : endB x = true) {U T : Ty} {Lo : List Res} {is : List (List Nat)} (hr : ResR P L E fn.results.toList [U]) (hp : PickX L is Lo) (hd : distinct is.flatten = true) (hT : Sub U T) : HX (FC P N w0 G0 S0) E L (bodyPost P fn (RetR w0 G0 S0 (fun _ => T) (fun _ => Lo))) x := HX.fin is (endB.or he) hr hd hp hT
theorem HX.finN {x : Exit} (he : endB x = true) {Us : List Ty} {T : Ty} {Lo : List Res} {is : List (List Nat)} (hr : ResR P L E fn.results.toList Us) (hn : Nat.beq Us.length 1 = false) (hp : PickX L is Lo) (hd : distinct is.flatten = true) (hT : Sub (TTup Us) T) : HX (FC P N w0 G0 S0) E L (bodyPost P fn (RetR w0 G0 S0 (fun _ => T) (fun _ => Lo))) x :=
  HX.fin is (endB.or he) hr hd hp (by
    match Us, hn with
    | [], _ => exact hT
    | [_], h => simp at h
    | _ :: _ :: _, _ => exact hT)

theorem HX.finS {x : Exit} (he : endB x = true) {v : Value} {sz : Nat} {e : TypeId} {T U : Ty} {is : List (List Nat)} (hr : ResR P L E fn.results.toList [TAnd (Is v) U]) (hp : PickX L is [ownSl v sz e]) (hd : distinct is.flatten = true) (hT : Sub U T) : HX (FC P N w0 G0 S0) E L (bodyPost P fn (RetR w0 G0 S0 (fun v => TAnd (Is v) T) (fun v => [ownSl v sz e]))) x :=
  HX.finG is (endB.or he) hr (fun G u h => by obtain ⟨h1, h2⟩ := h; cases h1; exact ⟨⟨rfl, hT _ _ h2⟩, hp⟩) hd
/-- A pointer to a new block is handed back. -/
theorem HX.finB {x : Exit} (he : endB x = true) {g : Nat} {e : TypeId} {ts : List Ty} {is : List (List Nat)} (hr : ResR P L E fn.results.toList [Is (pAt g 0)]) (hp : PickX L is [ownP g e ts]) (hd : distinct is.flatten = true) : HX (FC P N w0 G0 S0) E L (bodyPost P fn (RetR w0 G0 S0 (fun v => Is (pAt (blk v) 0)) (fun v => [ownP (blk v) e ts]))) x := HX.finP is (endB.or he) hr hd hp (Sub.refl _)
end
end Go.Vk
set_option linter.unusedVariables false
namespace Go.Vk
section
variable {P : Program} {L : List Res} {E : Env} {dst : Option Tmp} {op : Op} {ty : TypeId} {pos : String} {after : Array Edge} {gd : Option (Nat × Bool)} {K : Ty → Prop} {c : Prop}
theorem isEx {o : Oper} (h : ∃ T, (c → OpP P L E o T) ∧ K T) : ∃ T, (c → OpP P L E o T) ∧ K T := h
theorem isGd {g : Nat × Bool} (h : ∃ T, (c → OpP P L E ⟨dst, op, ty, pos, after, some g⟩ T) ∧ K T) : ∃ T, (c → OpP P L E ⟨dst, op, ty, pos, after, some g⟩ T) ∧ K T := h
theorem op_len_and {x : Operand} {α : Type} {sz : Nat} {f : α → List Ty} {l : List α} {v : Value} {t e : TypeId} (hx : Opd E x = some (TAnd (Is v) (TSl sz f l))) (hu : P.underlying t = some (.slice e)) :
    OpP P L E ⟨dst, .call { callee := .builtin .len, args := #[x], argTypes := #[t] }, ty, pos, after, gd⟩ (okI .i64 (l.length : Int)) :=
  OpP.same fun a w G S _ _ ho => by
    obtain ⟨_, ad, cap, h1, _⟩ := ho x (by simp [Op.operands, Call.operands]) _ hx
    refine ⟨.int .i64 (l.length : Int), ?_, rfl⟩
    simp [execOp, resolve, invoke, builtin, Builtin.len_, h1, run_underlying hu, goInt]
theorem op_smin {x y : Operand} {l m : List UInt8} {tys : Array TypeId} (hx : Opd E x = some (Is (str l))) (hy : Opd E y = some (Is (str m))) : OpP P L E ⟨dst, .call { callee := .builtin .min, args := #[x, y], argTypes := tys }, ty, pos, after, gd⟩ (Is (str (if sless l m || l == m then l else m))) :=
  OpP.same fun a w G S _ _ ho => by
    have h1 : a.eval x = str l := ho x (by simp [Op.operands, Call.operands]) _ hx
    have h2 : a.eval y = str m := ho y (by simp [Op.operands, Call.operands]) _ hy
    refine ⟨_, ?_, rfl⟩
    simp only [execOp, resolve]
    by_cases h : (sless l m || l == m) = true
    · simp [invoke, builtin, Builtin.min_, Builtin.min2, h1, h2, str, Op.stringOp, str_toList, asBool, h]
    · simp only [Bool.not_eq_true] at h
      simp [invoke, builtin, Builtin.min_, Builtin.min2, h1, h2, str, Op.stringOp, str_toList, asBool, h]
theorem op_smax {x y : Operand} {l m : List UInt8} {tys : Array TypeId} (hx : Opd E x = some (Is (str l))) (hy : Opd E y = some (Is (str m))) : OpP P L E ⟨dst, .call { callee := .builtin .max, args := #[x, y], argTypes := tys }, ty, pos, after, gd⟩ (Is (str (if sless l m then m else l))) :=
  OpP.same fun a w G S _ _ ho => by
    have h1 : a.eval x = str l := ho x (by simp [Op.operands, Call.operands]) _ hx
    have h2 : a.eval y = str m := ho y (by simp [Op.operands, Call.operands]) _ hy
    refine ⟨_, ?_, rfl⟩
    simp only [execOp, resolve]
    by_cases h : sless l m = true
    · simp [invoke, builtin, Builtin.max_, Builtin.max2, h1, h2, str, Op.stringOp, str_toList, asBool, h]
    · simp only [Bool.not_eq_true] at h
      simp [invoke, builtin, Builtin.max_, Builtin.max2, h1, h2, str, Op.stringOp, str_toList, asBool, h]
/-- A conversion that changes nothing of the value. -/
theorem op_convn {x : Operand} {l : List UInt8} {st dt : TypeId} (hx : Opd E x = some (Is (str l))) (hs : P.underlying st = some .string) (hd : P.underlying dt = some .string) : OpP P L E ⟨dst, .convert st dt x, ty, pos, after, gd⟩ (Is (str l)) :=
  OpP.same fun a w G S _ _ ho => by
    have h1 : a.eval x = str l := ho x (by simp [Op.operands]) _ hx
    exact ⟨str l, by simp only [execOp, h1]; simp [convert, run_underlying hs, run_underlying hd, str], rfl⟩

/-! ### rows that are written out: each element's types -/
def PartsT (E : Env) (sz : Nat) : List Operand → List (List Ty) → Prop
  | [], [] => True
  | x :: xs, ts :: tss => ((∃ T, Opd E x = some T ∧ CellsOf T ts) ∧ ts.length = sz) ∧ PartsT E sz xs tss
  | _, _ => False
theorem PartsT.nil {sz : Nat} : PartsT E sz [] [] := trivial
theorem PartsT.cons {sz : Nat} {x : Operand} {xs : List Operand} {T : Ty} {ts : List Ty} {tss : List (List Ty)} (hx : Opd E x = some T) (hc : CellsOf T ts) (hl : ts.length = sz) (k : PartsT E sz xs tss) : PartsT E sz (x :: xs) (ts :: tss) := ⟨⟨⟨T, hx, hc⟩, hl⟩, k⟩
theorem PartsT.lit {sz : Nat} : ∀ {xs : List Operand} {tss : List (List Ty)}, PartsT E sz xs tss → LitOk E (fun ts : List Ty => ts) xs tss ∧ xs.length = tss.length ∧ ∀ ts ∈ tss, ts.length = sz
  | [], [], _ => ⟨trivial, rfl, by simp⟩
  | x :: xs, ts :: tss, ⟨⟨h, hl⟩, k⟩ => by
    obtain ⟨h1, h2, h3⟩ := PartsT.lit k
    refine ⟨⟨h, h1⟩, by simp [h2], fun u hu => ?_⟩
    rcases List.mem_cons.1 hu with e | e
    · rw [e]; exact hl
    · exact h3 u e
  | [], _ :: _, h => h.elim
  | _ :: _, [], h => h.elim
theorem op_litT {n sz by_ : Nat} {t e : TypeId} {z : Value} {parts : Array (Nat × Operand)} {tss : List (List Ty)} (hp : partsOk parts n = true) (hx : PartsT E sz (partsOf parts) tss) (hu : P.underlying t = some (.slice e)) (hinf : (P.info? e).map (fun i => (i.zero, i.size, i.bytes)) = some (some z, sz, by_)) (hn : Nat.beq tss.length n = true) (hb : n * sz ≤ 16777216 ∧ n ≤ 16777216) (h0 : z.cells.size = z.cells.size) :
    OpP P L E ⟨dst, .buildSlice t n parts, ty, pos, after, gd⟩ (TSlX sz (fun ts : List Ty => ts) tss) := by
  obtain ⟨h1, h2, h3⟩ := hx.lit
  exact op_lit (fun ts : List Ty => ts) tss hp h1 (Nat.eq_of_beq_eq_true hn).symm h3 hu hinf hb.1 (by simp only [maxLen]; omega)
/-- Rows of types, and rows of what they are the types of. -/
theorem SlP.map {α : Type} {x : Bool} {sz : Nat} {f : α → List Ty} {l : List α} {tss : List (List Ty)} (h : tss = l.map f) {G : Imm} {v : Value} (k : SlP x sz (fun ts : List Ty => ts) tss G v) : SlP x sz f l G v := by
  subst h
  obtain ⟨a, cap, h1, h2, h3, h4, h5, h6⟩ := k
  simp only [List.length_map] at h1 h2 h4
  refine ⟨a, cap, h1, h2, h3, h4, h5, fun ad e => ?_⟩
  obtain ⟨k1, k2⟩ := h6 ad e
  refine ⟨fun hp => k1 (by simpa using hp), fun i y hy => ?_⟩
  exact k2 i (f y) (by simp [hy])
theorem Sub.slT {α : Type} {sz : Nat} {f : α → List Ty} {l : List α} {tss : List (List Ty)} (h : tss = l.map f) : Sub (TSl sz (fun ts : List Ty => ts) tss) (TSl sz f l) := fun _ _ k => SlP.map h k
theorem Sub.slxT {α : Type} {sz : Nat} {f : α → List Ty} {l : List α} {tss : List (List Ty)} (h : tss = l.map f) : Sub (TSlX sz (fun ts : List Ty => ts) tss) (TSl sz f l) := fun _ _ k => SlP.map h (TSlX.sl k)

/-! ### what is one's own is read -/
theorem exOwn {o : Oper} {v : Value} {T0 : Ty} {t : Nat} (i : Nat) (hi : tmpAt o i = some t) (h : E.get t = some (TAnd (Is v) T0)) (k : ∃ T, (c → OpP P L ((t, T0) :: E) o T) ∧ K T) : ∃ T, (c → OpP P L E o T) ∧ K T :=
  let ⟨T, h1, h2⟩ := k; ⟨T, fun hc => OpP.unl (U0 := TAnd (Is v) T0) (fun _ _ k => k.2) h (h1 hc), h2⟩
/-- What a value of type T is does not hang on memory. -/
def Gnd (T : Ty) : Prop := ∀ G G' v, T.p G v → T.p G' v
theorem Gnd.is (v : Value) : Gnd (Is v) := fun _ _ _ h => h
def GndL : List Ty → Prop
  | [] => True
  | T :: ts => Gnd T ∧ GndL ts
theorem GndL.nil : GndL [] := trivial
theorem GndL.cons {T : Ty} {ts : List Ty} (h : Gnd T) (k : GndL ts) : GndL (T :: ts) := ⟨h, k⟩
theorem GndL.at : ∀ {ts : List Ty}, GndL ts → ∀ (j : Nat) (T : Ty), ts[j]? = some T → Gnd T
  | [], _, j, T, h => by simp at h
  | U :: ts, ⟨h, k⟩, j, T, e => by
    cases j with
    | zero => simp at e; subst e; exact h
    | succ j => exact GndL.at k j T (by simpa using e)
theorem Gnd.tup {ts : List Ty} (h : GndL ts) : Gnd (TTup ts) := fun _ _ _ ⟨vs, e, hl, k⟩ => ⟨vs, e, hl, fun j T u h1 h2 => h.at j T h1 _ _ _ (k j T u h1 h2)⟩
theorem Gnd.agg {ts : List Ty} (h : GndL ts) : Gnd (TAgg ts) := fun _ _ _ ⟨vs, e, hl, k⟩ => ⟨vs, e, hl, fun j T u h1 h2 => ⟨h.at j T h1 _ _ _ (k j T u h1 h2).1, (k j T u h1 h2).2⟩⟩
/-- A call that only reads what stands behind a pointer of one's own. -/
theorem exCallRd {f : FuncId} {A : List Ty} {T : Ty} {x : Operand} {xs : List Operand} {tys : Array TypeId} {g : Nat} {e : TypeId} {ts ts' : List Ty} (i : Nat) (hx : Opd E x = some (Is (pAt g 0))) (hL : L[i]? = some (ownP g e ts)) (hf : c → CFn P f (TPc ts' :: A) T) (zxs : OpdsS E xs A) (zts : TsSub ts ts') (zT : Gnd T) (k : K T) :
    ∃ T, (c → OpP P L E ⟨dst, .call { callee := .value (.func f), args := (x :: xs).toArray, argTypes := tys }, ty, pos, after, gd⟩ T) ∧ K T := by
  refine ⟨T, fun hc => ?_, k⟩
  have hf := hf hc
  intro a w G S hs ho ht K Q k
  obtain ⟨hS, ⟨cs, h2, h3, h4⟩, h5⟩ := ownP.at ho hL
  -- for the call's time the block counts as one that stays
  have hsG : Sat (fun b o => if b = g then cs[o]? else G b o) w := by
    intro b o v hb
    by_cases hbg : b = g
    · subst hbg
      simp only [if_true] at hb
      simp only [World.cell?, h2]
      simpa using hb
    · simp only [hbg, if_false] at hb; exact hs b o v hb
  have hle : Imm.le G (fun b o => if b = g then cs[o]? else G b o) := by
    intro b o v hb
    by_cases hbg : b = g
    · subst hbg; rw [h5] at hb; cases hb
    · simp only [hbg, if_false]; exact hb
  have hxx : (TPc ts').p (fun b o => if b = g then cs[o]? else G b o) (a.eval x) := by
    have h1 : a.eval x = pAt g 0 := ht x (by simp [Op.operands, Call.operands]) _ hx
    refine ⟨g, 0, h1, fun j U hj => ?_⟩
    obtain ⟨_, k2⟩ := zts.get
    obtain ⟨T', e1, e2⟩ := k2 j U hj
    obtain ⟨u, a1, a2, a3⟩ := h4 j T' e1
    exact ⟨u, by simp [a1], U.mono hle (e2 _ _ a2), a3⟩
  have hargs : ArgsT (fun b o => if b = g then cs[o]? else G b o) (TPc ts' :: A) ((x :: xs).map a.eval) :=
    ⟨hxx, (OpdsS.args xs A zxs (fun y hy => ht y (by simp [Op.operands, Call.operands, hy]))).mono hle⟩
  simp only [Oper.wp, run_call_func w hf.enter, Oper.upon_enter]
  refine (hf.calls _ w _ _ hsG (Owns.none _ w) hargs).mono ?_
  rintro e w' ⟨v, G', S', rfl, hext, -, -, zT'⟩
  have hgl : g < w.heap.size := (Array.getElem?_eq_some_iff.1 h2).1
  refine k v w' (fun b o => if b = g then Option.none else G' b o) ⟨?_, ?_, hext.os, hext.tape, hext.output, hext.size, ?_⟩ (zT _ _ _ zT')
  · intro b o u hb
    by_cases hbg : b = g
    · subst hbg; simp at hb
    · simp only [hbg, if_false] at hb; exact hext.sat b o u hb
  · intro b o u hb
    have hbg : b ≠ g := fun e => by subst e; rw [h5] at hb; cases hb
    simp only [hbg, if_false]
    exact hext.le b o u (hle b o u hb)
  · intro b hb _
    obtain ⟨e1, e2⟩ := hext.blk b hb (fun ⟨_, h⟩ => h)
    refine ⟨e1, fun o => ?_⟩
    by_cases hbg : b = g
    · subst hbg; simp [h5]
    · simp only [hbg, if_false]; rw [e2 o]; simp [hbg]

/-! ### functions without a body, unsafe pointers, pointers that are compared -/
/-- The contract of a function that the model itself answers. -/
def XFn (P : Program) (f : FuncId) (A : List Ty) (T : Ty) : Prop := ∀ (vs : List Value) (w : World) (G : Imm), Sat G w → ArgsT G A vs → ∃ v w' G', (callFunc f vs.toArray).run P w = .ok (.value v) w' ∧ Ext noZ G w G' w' ∧ T.p G' v
theorem exCallX {f : FuncId} {A : List Ty} {T : Ty} {xs : List Operand} {tys : Array TypeId} (hx : Opds E xs A) (hf : c → XFn P f A T) (k : K T) :
    ∃ T, (c → OpP P L E ⟨dst, .call { callee := .value (.func f), args := xs.toArray, argTypes := tys }, ty, pos, after, gd⟩ T) ∧ K T := by
  refine ⟨T, fun hc => OpP.laid fun a w G S hs ho ht => ?_, k⟩
  obtain ⟨v, w', G', h1, h2, h3⟩ := hf hc _ w G hs (Opds.args (G := G) (a := a) xs A hx (fun x hx' => ht x (by simp [Op.operands, Call.operands, hx'])))
  refine ⟨v, w', G', ?_, h2, h3⟩
  simp [execOp, resolve, Deferred.ofValue, Act.eval, invoke]
  exact h1
theorem XFn.same {f : FuncId} {fn : Func} {e : Array Value → Sem Value} {A : List Ty} {T : Ty} (hf : P.funcs[f]? = some fn) (hname : (fn.name == "runtime.NumGoroutine") = false) (hb : fn.body.isNone = true) (hn : Extern.findNext fn = none) (he : Extern.find fn = some e)
    (h : ∀ (vs : List Value) (w : World) (G : Imm), Sat G w → ArgsT G A vs → ∃ v, (e vs.toArray).run P w = .ok v w ∧ T.p G v) : XFn P f A T := fun vs w G hs ha => by
  obtain ⟨v, h1, h2⟩ := h vs w G hs ha
  exact ⟨v, w, G, by rw [run_callFunc_extern hf hname hb hn he, h1]; rfl, Ext.refl hs, h2⟩
theorem own_shape {i g : Nat} {e : TypeId} {ts : List Ty} {S : Nat → Nat → Prop} {G : Imm} {w : World} (h : Owns S L G w) (hL : L[i]? = some (ownP g e ts)) : w.shape? g = some (e, ts.length) := by
  obtain ⟨_, ⟨cs, h2, h3, _⟩, _⟩ := ownP.at h hL
  simp [World.shape?, h2, h3]
theorem op_toUnsafe {x : Operand} {g o : Nat} {st dt t e : TypeId} {ts : List Ty} {n : Nat} (i : Nat) (hx : Opd E x = some (Is (pAt g o))) (hL : L[i]? = some (ownP g e ts)) (hs : P.underlying st = some (.pointer t)) (hd : P.underlying dt = some .unsafePointer) (hsz : (P.info? t).map (·.size) = some (n + 1)) (ho : Nat.blt o ts.length = true) : OpP P L E ⟨dst, .convert st dt x, ty, pos, after, gd⟩ (Is (pAt g o)) :=
  OpP.same fun a w G S _ ho' h => by
    have h1 : a.eval x = pAt g o := h x (by simp [Op.operands]) _ hx
    obtain ⟨j, hj, hjs⟩ := Option.map_eq_some_iff.1 hsz
    refine ⟨pAt g o, ?_, rfl⟩
    simp only [execOp, h1]
    simp [Lib.run_to_unsafe w ⟨g, o, Option.none⟩ hs hd hj (by omega) (own_shape ho' hL) (Nat.le_of_ble_eq_true ho)]
theorem op_fromUnsafe {x : Operand} {g o : Nat} {st dt t e : TypeId} {ts : List Ty} {n : Nat} (i : Nat) (hx : Opd E x = some (Is (pAt g o))) (hL : L[i]? = some (ownP g e ts)) (hs : P.underlying st = some .unsafePointer) (hd : P.underlying dt = some (.pointer t)) (hsz : (P.info? t).map (·.size) = some (n + 1)) (hl : liesAt P P.depth e (ts.length / P.cellsOf e) o t 1 = true) : OpP P L E ⟨dst, .convert st dt x, ty, pos, after, gd⟩ (Is (pAt g o)) :=
  OpP.same fun a w G S _ ho' h => by
    have h1 : a.eval x = pAt g o := h x (by simp [Op.operands]) _ hx
    obtain ⟨j, hj, hjs⟩ := Option.map_eq_some_iff.1 hsz
    refine ⟨pAt g o, ?_, rfl⟩
    simp only [execOp, h1]
    simp [Lib.run_from_unsafe w ⟨g, o, Option.none⟩ hs hd hj (own_shape ho' hL) hl]
theorem op_eqPnil {x : Operand} {g o : Nat} {xt yt t : TypeId} (hx : Opd E x = some (Is (pAt g o))) (hu : P.underlying xt = some (.pointer t)) : OpP P L E ⟨dst, .binOp .eql xt x (.const (.pointer none)) yt, ty, pos, after, gd⟩ (Is (.bool false)) :=
  OpP.same fun a w G S _ _ ho => by
    have h1 : a.eval x = pAt g o := ho x (by simp [Op.operands]) _ hx
    refine ⟨.bool false, ?_, rfl⟩
    have hr : (Op.equal xt (pAt g o) (.pointer none)).run P w = .ok false w := by
      have h : ∀ d, (Op.equalIn (d + 1) xt (pAt g o) (.pointer none)).run P w = .ok false w := fun d => by simp [Op.equalIn, run_underlying hu]
      exact h 9999
    have h0 : a.eval (.const (.pointer none)) = .pointer none := rfl
    simp only [execOp, h1, h0]
    simp [eqGuard, binOp, hr]
theorem op_nePnil {x : Operand} {g o : Nat} {xt yt t : TypeId} (hx : Opd E x = some (Is (pAt g o))) (hu : P.underlying xt = some (.pointer t)) : OpP P L E ⟨dst, .binOp .neq xt x (.const (.pointer none)) yt, ty, pos, after, gd⟩ (Is (.bool true)) :=
  OpP.same fun a w G S _ _ ho => by
    have h1 : a.eval x = pAt g o := ho x (by simp [Op.operands]) _ hx
    refine ⟨.bool true, ?_, rfl⟩
    have hr : (Op.equal xt (pAt g o) (.pointer none)).run P w = .ok false w := by
      have h : ∀ d, (Op.equalIn (d + 1) xt (pAt g o) (.pointer none)).run P w = .ok false w := fun d => by simp [Op.equalIn, run_underlying hu]
      exact h 9999
    have h0 : a.eval (.const (.pointer none)) = .pointer none := rfl
    simp only [execOp, h1, h0]
    simp [eqGuard, binOp, hr]
theorem op_eqPnn {x : Operand} {xt yt t : TypeId} (hx : Opd E x = some (Is (.pointer none))) (hu : P.underlying xt = some (.pointer t)) : OpP P L E ⟨dst, .binOp .eql xt x (.const (.pointer none)) yt, ty, pos, after, gd⟩ (Is (.bool true)) :=
  OpP.same fun a w G S _ _ ho => by
    have h1 : a.eval x = .pointer none := ho x (by simp [Op.operands]) _ hx
    refine ⟨.bool true, ?_, rfl⟩
    have hr : (Op.equal xt (.pointer none) (.pointer none)).run P w = .ok true w := by
      have h : ∀ d, (Op.equalIn (d + 1) xt (.pointer none) (.pointer none)).run P w = .ok true w := fun d => by simp [Op.equalIn, run_underlying hu]
      exact h 9999
    have h0 : a.eval (.const (.pointer none)) = .pointer none := rfl
    simp only [execOp, h1, h0]
    simp [eqGuard, binOp, hr]
theorem op_nePnn {x : Operand} {xt yt t : TypeId} (hx : Opd E x = some (Is (.pointer none))) (hu : P.underlying xt = some (.pointer t)) : OpP P L E ⟨dst, .binOp .neq xt x (.const (.pointer none)) yt, ty, pos, after, gd⟩ (Is (.bool false)) :=
  OpP.same fun a w G S _ _ ho => by
    have h1 : a.eval x = .pointer none := ho x (by simp [Op.operands]) _ hx
    refine ⟨.bool false, ?_, rfl⟩
    have hr : (Op.equal xt (.pointer none) (.pointer none)).run P w = .ok true w := by
      have h : ∀ d, (Op.equalIn (d + 1) xt (.pointer none) (.pointer none)).run P w = .ok true w := fun d => by simp [Op.equalIn, run_underlying hu]
      exact h 9999
    have h0 : a.eval (.const (.pointer none)) = .pointer none := rfl
    simp only [execOp, h1, h0]
    simp [eqGuard, binOp, hr]
theorem run_eqPP {g o o' : Nat} {xt t : TypeId} {n : Nat} (w : World) (hu : P.underlying xt = some (.pointer t)) (hsz : (P.info? t).map (·.size) = some (n + 1)) : (Op.equal xt (pAt g o) (pAt g o')).run P w = .ok (decide (o = o')) w := by
  obtain ⟨j, hj, hjs⟩ := Option.map_eq_some_iff.1 hsz
  have h : ∀ d, (Op.equalIn (d + 1) xt (pAt g o) (pAt g o')).run P w = .ok (decide (o = o')) w := fun d => by
    by_cases h : o = o' <;> simp [Op.equalIn, run_underlying hu, sizeOf, typeInfo, hj, hjs, sameAddr, h]
  exact h 9999
theorem op_nePP {x y : Operand} {g o o' : Nat} {xt yt t : TypeId} {n : Nat} (hx : Opd E x = some (Is (pAt g o))) (hy : Opd E y = some (Is (pAt g o'))) (hu : P.underlying xt = some (.pointer t)) (hsz : (P.info? t).map (·.size) = some (n + 1)) : OpP P L E ⟨dst, .binOp .neq xt x y yt, ty, pos, after, gd⟩ (Is (.bool (!decide (o = o')))) :=
  OpP.same fun a w G S _ _ ho => by
    have h1 : a.eval x = pAt g o := ho x (by simp [Op.operands]) _ hx
    have h2 : a.eval y = pAt g o' := ho y (by simp [Op.operands]) _ hy
    refine ⟨.bool (!decide (o = o')), ?_, rfl⟩
    simp only [execOp, h1, h2]
    simp [eqGuard, binOp, run_eqPP w hu hsz]

/-! ### more of append -/
theorem slx_nil {α : Type} {sz : Nat} (f : α → List Ty) {tss : List (List Ty)} (h0 : tss = []) {G : Imm} {v : Value} (k : (TSlX sz (fun ts : List Ty => ts) tss).p G v) : (TSlX sz f ([] : List α)).p G v := by
  subst h0
  exact SlP.map (f := f) (l := []) rfl k
theorem op_append0 {x : Nat} {y : Operand} {α : Type} {sz by_ : Nat} {f : α → List Ty} {m : List α} {t e : TypeId} {z : Value} (hx : E.get x = some (TSlX sz (fun ts : List Ty => ts) [])) (hy : Opd ((x, TSlX sz f ([] : List α)) :: E) y = some (TSl sz f m))
    (hu : P.underlying t = some (.slice e)) (hinf : (P.info? e).map (fun i => (i.zero, i.size, i.bytes)) = some (some z, sz, by_)) (hb : m.length * by_ ≤ 140737488355328 ∧ m.length ≤ maxLen) :
    OpP P L E ⟨dst, .call { callee := .builtin .append, args := #[.tmp x, y], argTypes := #[t, t] }, ty, pos, after, gd⟩ (TSl sz f m) :=
  OpP.unl (U0 := TSlX sz (fun ts : List Ty => ts) []) (T0 := TSlX sz f ([] : List α)) (fun _ _ k => slx_nil f rfl k) hx
    (op_appendX (l := ([] : List α)) (by simp [Opd, Env.get]) hy hu hinf (by simpa using hb.1) (by simpa using hb.2))
/-- append onto what was written out. -/
theorem op_appendXT {x y : Operand} {sz by_ : Nat} {l m : List (List Ty)} {t e : TypeId} {z : Value} (hx : Opd E x = some (TSlX sz (fun ts : List Ty => ts) l)) (hy : Opd E y = some (TSl sz (fun ts : List Ty => ts) m))
    (hu : P.underlying t = some (.slice e)) (hinf : (P.info? e).map (fun i => (i.zero, i.size, i.bytes)) = some (some z, sz, by_)) (hb : (l.length + m.length) * by_ ≤ 140737488355328 ∧ l.length + m.length ≤ maxLen) :
    OpP P L E ⟨dst, .call { callee := .builtin .append, args := #[x, y], argTypes := #[t, t] }, ty, pos, after, gd⟩ (TSl sz (fun ts : List Ty => ts) (l ++ m)) := op_appendX hx hy hu hinf hb.1 hb.2
theorem SlP.unmap {α : Type} {x : Bool} {sz : Nat} {f : α → List Ty} {l : List α} {G : Imm} {v : Value} (k : SlP x sz f l G v) : SlP x sz (fun ts : List Ty => ts) (l.map f) G v := by
  obtain ⟨a, cap, h1, h2, h3, h4, h5, h6⟩ := k
  refine ⟨a, cap, by simpa using h1, by simpa using h2, h3, by simpa using h4, h5, fun ad e => ?_⟩
  obtain ⟨k1, k2⟩ := h6 ad e
  refine ⟨fun hp => k1 (by simpa using hp), fun i y hy => ?_⟩
  simp only [List.getElem?_map, Option.map_eq_some_iff] at hy
  obtain ⟨z, hz, rfl⟩ := hy
  exact k2 i z hz
theorem Sub.unT {α : Type} (sz : Nat) (f : α → List Ty) (l : List α) : Sub (TSl sz f l) (TSl sz (fun ts : List Ty => ts) (l.map f)) := fun _ _ k => SlP.unmap k
/-- append onto a slice of one's own what is written out: all as rows of types. -/
theorem oc_appendT {x : Nat} {y : Operand} {α : Type} {sz by_ : Nat} {f : α → List Ty} {l : List α} {tss : List (List Ty)} {t e : TypeId} {z v : Value} {L' : Value → List Res} (i : Nat) (hx : E.get x = some (TAnd (Is v) (TSl sz f l))) (hL : L[i]? = some (ownSl v sz e)) (hy : Opd E y = some (TSlX sz (fun ts : List Ty => ts) tss))
    (hu : P.underlying t = some (.slice e)) (hinf : (P.info? e).map (fun i => (i.zero, i.size, i.bytes)) = some (some z, sz, by_)) (hz : z.cells.size = sz) (hb : (l.length + tss.length) * by_ ≤ 140737488355328 ∧ l.length + tss.length ≤ maxLen) (hL' : ∀ v', L.set i (ownSl v' sz e) = L' v') :
    OpC P L E ⟨dst, .call { callee := .builtin .append, args := #[.tmp x, y], argTypes := #[t, t] }, ty, pos, after, gd⟩ (fun v' => TAnd (Is v') (TSl sz (fun ts : List Ty => ts) (l.map f ++ tss))) L' := by
  have hLe : L' = fun v' => L.set i (ownSl v' sz e) := by funext v'; exact (hL' v').symm
  subst hLe
  intro a w G S hsat ho ht K Q k
  have hxx := ht (.tmp x) (by simp [Op.operands, Call.operands]) _ hx
  have hyy := TSlX.sl (ht y (by simp [Op.operands, Call.operands]) _ hy)
  have hxv : a.eval (.tmp x) = v := hxx.1
  obtain ⟨v', w', G', S', hr, h1, h2, h3, h4⟩ := run_append_res (P := P) (tyy := ty) (l := l.map f) (f := fun ts : List Ty => ts) hu hinf hz hsat ho hL (by rw [← hxv]; exact SlP.unmap hxx.2) hyy (by simpa using hb.1) (by simpa using hb.2)
  have : (execOp a.eval (⟨dst, .call { callee := .builtin .append, args := #[.tmp x, y], argTypes := #[t, t] }, ty, pos, after, gd⟩ : Oper)).run P w = .ok (.value v') w' := by
    simp only [execOp, resolve]
    simp [invoke, builtin, hxv, hr]
  simp only [Oper.wp, this, Oper.upon_value]
  exact k v' w' G' S' h1 h2 h3 ⟨rfl, h4⟩
end
section
variable {F : FCtx} {E : Env} {L L' : List Res} {Q : Exit → Act → World → Prop} {ops : Array Oper} {rest : List Oper} {d : Nat} {ty : TypeId} {pos : String} {after : Array Edge}
end
end Go.Vk
