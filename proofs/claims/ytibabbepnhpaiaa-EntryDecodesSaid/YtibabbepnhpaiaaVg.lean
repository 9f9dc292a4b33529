/-
  Rules for structs by value, strings, rows of structs. Nothing here speaks of a program; no conditions.
-/
import Derived.Test.YtibabbepnhpaiaaVf
import Derived.Laws.StructEq
set_option linter.unusedVariables false
namespace Go.Vk
section
variable {P : Program} {L : List Res} {E : Env} {dst : Option Tmp} {ty : TypeId} {pos : String} {after : Array Edge} {gd : Option (Nat × Bool)}

/-! ### strings -/
theorem str_size (l : List UInt8) : (ByteArray.mk l.toArray).size = l.length := size_str l
theorem run_strIndex (w : World) {t : TypeId} {l : List UInt8} {k : IntKind} {n : Int} (hu : P.underlying t = some .string) (h : 0 ≤ n ∧ n < (l.length : Int)) : (Instr.index t (str l) (.int k n)).run P w = .ok (.int .u8 ((l.getD n.toNat 0).toNat : Int)) w := by
  have hlt : n.toNat < l.length := by omega
  have hsz : (ByteArray.mk l.toArray).size = l.length := size_str l
  have hget : (ByteArray.mk l.toArray)[n.toNat]? = some (l.getD n.toNat 0) := by
    rw [getElem?_pos _ _ (by rw [hsz]; exact hlt)]
    congr 1
    rw [List.getD_eq_getElem?_getD, List.getElem?_eq_getElem hlt]
    rfl
  simp only [Instr.index, str, asIntOf, Sem.run_bind, Sem.run_pure, Result.andThen_ok, run_underlying hu, if_pos h.1, hget]
theorem op_sindex {x i : Operand} {l : List UInt8} {k : IntKind} {n : Int} {t : TypeId} (hx : Opd E x = some (Is (str l))) (hi : Opd E i = some (okI k n)) (hu : P.underlying t = some .string) (h : 0 ≤ n ∧ n < (l.length : Int)) : OpP P L E ⟨dst, .index t x i, ty, pos, after, gd⟩ (okI .u8 ((l.getD n.toNat 0).toNat : Int)) :=
  OpP.same fun a w G S _ _ ho => by
    have h1 : a.eval x = str l := ho x (by simp [Op.operands]) _ hx
    have h2 : a.eval i = .int k n := ho i (by simp [Op.operands]) _ hi
    refine ⟨_, ?_, rfl⟩
    simp only [execOp, h1, h2]
    simp [run_strIndex w hu h]
theorem op_sindexN {x ix : Operand} {l : List UInt8} {k : IntKind} {i : Nat} {t : TypeId} (hx : Opd E x = some (Is (str l))) (hi : Opd E ix = some (okI k (i : Int))) (hu : P.underlying t = some .string) (h : i < l.length) : OpP P L E ⟨dst, .index t x ix, ty, pos, after, gd⟩ (okI .u8 ((l.getD i 0).toNat : Int)) := by
  have := op_sindex (P := P) (L := L) (dst := dst) (ty := ty) (pos := pos) (after := after) (gd := gd) hx hi hu (by omega)
  simpa using this
theorem str_extract (l : List UInt8) (a b : Nat) : (ByteArray.mk l.toArray).extract a b = ByteArray.mk ((l.take b).drop a).toArray := by
  apply ByteArray.ext
  apply Array.toList_inj.1
  simp [ByteArray.data_extract, Array.toList_extract, List.extract_eq_take_drop]
  rw [List.drop_take]
theorem op_sslice {x : Operand} {lo hi : Option Operand} {l : List UInt8} {t : TypeId} {m n : Int} (hx : Opd E x = some (Is (str l))) (hu : P.underlying t = some .string)
    (hlo : (lo = none ∧ m = 0) ∨ ∃ o k, lo = some o ∧ Opd E o = some (okI k m)) (hhi : (hi = none ∧ n = (l.length : Int)) ∨ ∃ o k, hi = some o ∧ Opd E o = some (okI k n)) (h0 : 0 ≤ m) (h1 : m ≤ n) (h2 : n ≤ (l.length : Int)) :
    OpP P L E ⟨dst, .slice t x lo hi none, ty, pos, after, gd⟩ (Is (str ((l.take n.toNat).drop m.toNat))) :=
  OpP.same fun a w G S _ _ ho => by
    have e1 : a.eval x = str l := ho x (by simp [Op.operands]) _ hx
    refine ⟨_, ?_, rfl⟩
    obtain ⟨m, rfl⟩ := Int.eq_ofNat_of_zero_le h0
    obtain ⟨n, rfl⟩ := Int.eq_ofNat_of_zero_le (show 0 ≤ n by omega)
    have g1 : m ≤ n := by omega
    have g2 : n ≤ l.length := by omega
    have hlo' : lo.map a.eval = none ∧ m = 0 ∨ ∃ k, lo.map a.eval = some (.int k m) := by
      rcases hlo with ⟨rfl, h⟩ | ⟨o, k, rfl, hk⟩
      · exact .inl ⟨rfl, by omega⟩
      · exact .inr ⟨k, by have : a.eval o = .int k m := ho o (by simp [Op.operands]) _ hk
                          simp [this]⟩
    have hhi' : hi.map a.eval = none ∧ n = l.length ∨ ∃ k, hi.map a.eval = some (.int k n) := by
      rcases hhi with ⟨rfl, h⟩ | ⟨o, k, rfl, hk⟩
      · exact .inl ⟨rfl, by omega⟩
      · exact .inr ⟨k, by have : a.eval o = .int k n := ho o (by simp [Op.operands]) _ hk
                          simp [this]⟩
    have hr : (Instr.sliceAt t (str l) (lo.map a.eval) (hi.map a.eval) none).run P w = .ok (str ((l.take n).drop m)) w := by
      have hx := str_extract l m n
      rcases hlo' with ⟨q1, rfl⟩ | ⟨k, q1⟩ <;> rcases hhi' with ⟨q2, rfl⟩ | ⟨k', q2⟩ <;>
        simp [q1, q2, Instr.sliceAt, run_underlying hu, Instr.slice, Instr.sliceBounds, Instr.sliceBound, asIntOf, str, size_str, g1, g2, hx]
    simp only [execOp, e1]
    simp [hr]
theorem op_sslice2 {x o o' : Operand} {l : List UInt8} {t : TypeId} {m n : Int} {k k' : IntKind} (hx : Opd E x = some (Is (str l))) (hu : P.underlying t = some .string) (hlo : Opd E o = some (okI k m)) (hhi : Opd E o' = some (okI k' n)) (h : 0 ≤ m ∧ m ≤ n ∧ n ≤ (l.length : Int)) :
    OpP P L E ⟨dst, .slice t x (some o) (some o') none, ty, pos, after, gd⟩ (Is (str ((l.take n.toNat).drop m.toNat))) := op_sslice hx hu (.inr ⟨o, k, rfl, hlo⟩) (.inr ⟨o', k', rfl, hhi⟩) h.1 h.2.1 h.2.2
theorem op_ssliceL {x o : Operand} {l : List UInt8} {t : TypeId} {m : Int} {k : IntKind} (hx : Opd E x = some (Is (str l))) (hu : P.underlying t = some .string) (hlo : Opd E o = some (okI k m)) (h : 0 ≤ m ∧ m ≤ (l.length : Int)) :
    OpP P L E ⟨dst, .slice t x (some o) none none, ty, pos, after, gd⟩ (Is (str (l.drop m.toNat))) := by
  have := op_sslice (P := P) (L := L) (dst := dst) (ty := ty) (pos := pos) (after := after) (gd := gd) (n := (l.length : Int)) hx hu (.inr ⟨o, k, rfl, hlo⟩) (.inl ⟨rfl, rfl⟩) h.1 h.2 (Int.le_refl _)
  simpa using this
theorem op_ssliceH {x o' : Operand} {l : List UInt8} {t : TypeId} {n : Int} {k' : IntKind} (hx : Opd E x = some (Is (str l))) (hu : P.underlying t = some .string) (hhi : Opd E o' = some (okI k' n)) (h : 0 ≤ n ∧ n ≤ (l.length : Int)) :
    OpP P L E ⟨dst, .slice t x none (some o') none, ty, pos, after, gd⟩ (Is (str (l.take n.toNat))) := by
  have := op_sslice (P := P) (L := L) (dst := dst) (ty := ty) (pos := pos) (after := after) (gd := gd) (m := 0) hx hu (.inl ⟨rfl, rfl⟩) (.inr ⟨o', k', rfl, hhi⟩) (Int.le_refl _) h.1 h.2
  simpa using this
theorem str_append (l m : List UInt8) : ByteArray.mk l.toArray ++ ByteArray.mk m.toArray = ByteArray.mk (l ++ m).toArray := by
  apply ByteArray.ext
  simp
theorem op_sadd {x y : Operand} {l m : List UInt8} {xt yt : TypeId} (hx : Opd E x = some (Is (str l))) (hy : Opd E y = some (Is (str m))) (h : (l.length : Int) + (m.length : Int) ≤ 9223372036854775807) : OpP P L E ⟨dst, .binOp .add xt x y yt, ty, pos, after, gd⟩ (Is (str (l ++ m))) :=
  OpP.same fun a w G S _ _ ho => by
    have h1 : a.eval x = str l := ho x (by simp [Op.operands]) _ hx
    have h2 : a.eval y = str m := ho y (by simp [Op.operands]) _ hy
    refine ⟨_, ?_, rfl⟩
    simp only [execOp, h1, h2]
    have hmax : IntKind.i64.max = 9223372036854775807 := by decide
    have hno : ¬ (((l.length + m.length : Nat) : Int) > 9223372036854775807) := by omega
    have hs := str_append l m
    simp only [eqGuard, binOp, str, Op.stringOp, size_str, hmax, if_neg hno, hs]
    simp
/-- The order of texts. -/
abbrev sless (l m : List UInt8) : Bool := Op.bytesLess l m
theorem str_toList (l : List UInt8) : (ByteArray.mk l.toArray).toList = l := by rw [ByteArray.toList_eq]
theorem op_slss {x y : Operand} {l m : List UInt8} {xt yt : TypeId} (hx : Opd E x = some (Is (str l))) (hy : Opd E y = some (Is (str m))) : OpP P L E ⟨dst, .binOp .lss xt x y yt, ty, pos, after, gd⟩ (Is (.bool (sless l m))) :=
  OpP.same fun a w G S _ _ ho => by
    have h1 : a.eval x = str l := ho x (by simp [Op.operands]) _ hx
    have h2 : a.eval y = str m := ho y (by simp [Op.operands]) _ hy
    refine ⟨_, ?_, rfl⟩
    simp only [execOp, h1, h2]
    simp [eqGuard, binOp, str, Op.stringOp, str_toList]
theorem op_sleq {x y : Operand} {l m : List UInt8} {xt yt : TypeId} (hx : Opd E x = some (Is (str l))) (hy : Opd E y = some (Is (str m))) : OpP P L E ⟨dst, .binOp .leq xt x y yt, ty, pos, after, gd⟩ (Is (.bool (sless l m || l == m))) :=
  OpP.same fun a w G S _ _ ho => by
    have h1 : a.eval x = str l := ho x (by simp [Op.operands]) _ hx
    have h2 : a.eval y = str m := ho y (by simp [Op.operands]) _ hy
    refine ⟨_, ?_, rfl⟩
    simp only [execOp, h1, h2]
    simp [eqGuard, binOp, str, Op.stringOp, str_toList]
theorem op_sgtr {x y : Operand} {l m : List UInt8} {xt yt : TypeId} (hx : Opd E x = some (Is (str l))) (hy : Opd E y = some (Is (str m))) : OpP P L E ⟨dst, .binOp .gtr xt x y yt, ty, pos, after, gd⟩ (Is (.bool (!(sless l m || l == m)))) :=
  OpP.same fun a w G S _ _ ho => by
    have h1 : a.eval x = str l := ho x (by simp [Op.operands]) _ hx
    have h2 : a.eval y = str m := ho y (by simp [Op.operands]) _ hy
    refine ⟨_, ?_, rfl⟩
    simp only [execOp, h1, h2]
    simp [eqGuard, binOp, str, Op.stringOp, str_toList]
theorem op_sgeq {x y : Operand} {l m : List UInt8} {xt yt : TypeId} (hx : Opd E x = some (Is (str l))) (hy : Opd E y = some (Is (str m))) : OpP P L E ⟨dst, .binOp .geq xt x y yt, ty, pos, after, gd⟩ (Is (.bool (!sless l m))) :=
  OpP.same fun a w G S _ _ ho => by
    have h1 : a.eval x = str l := ho x (by simp [Op.operands]) _ hx
    have h2 : a.eval y = str m := ho y (by simp [Op.operands]) _ hy
    refine ⟨_, ?_, rfl⟩
    simp only [execOp, h1, h2]
    simp [eqGuard, binOp, str, Op.stringOp, str_toList]

/-! ### structs by value -/
theorem run_partAt {t : TypeId} {cs : Array Value} {off : Nat} {v : Value} (w : World) (hag : aggB P t = some false) (h : cs[off]? = some v) : (part t cs off).run P w = .ok v w := by
  unfold part
  simp [run_isAgg hag, h]
/-- A field's type and offset. -/
def fieldAtT (P : Program) (s : TypeId) (i : Nat) : Option (TypeId × Nat) :=
  match P.underlying s with
  | some (.struct fields) => (fields[i]?).map fun f => (f.type, f.offset)
  | _ => none
theorem run_field {s ft : TypeId} {i off : Nat} (w : World) (h : fieldAtT P s i = some (ft, off)) (cs : Array Value) : (Instr.field s (.agg cs) i).run P w = (part ft cs off).run P w := by
  unfold fieldAtT at h
  cases hu : P.underlying s with
  | none => rw [hu] at h; cases h
  | some d =>
    rw [hu] at h
    cases d <;> try (simp at h)
    rename_i fields
    cases hf : fields[i]? with
    | none => rw [hf] at h; simp at h
    | some f =>
      rw [hf] at h
      simp at h
      obtain ⟨rfl, rfl⟩ := h
      simp only [Instr.field, Sem.run_bind, run_underlying hu, Result.andThen_ok, hf, asAgg, Sem.run_pure]
theorem op_field1 {x : Operand} {ts : List Ty} {s ft : TypeId} {i off : Nat} {T : Ty} (hx : Opd E x = some (TAgg ts)) (hf : fieldAtT P s i = some (ft, off)) (hag : aggB P ft = some false) (hT : ts[off]? = some T) : OpP P L E ⟨dst, .field s x i, ty, pos, after, gd⟩ T :=
  OpP.same fun a w G S _ _ ho => by
    obtain ⟨vs, h1, h2, h3⟩ := ho x (by simp [Op.operands]) _ hx
    have hlt := (List.getElem?_eq_some_iff.1 hT).1
    obtain ⟨u, hu⟩ : ∃ u, vs[off]? = some u := ⟨_, List.getElem?_eq_getElem (by omega)⟩
    refine ⟨u, ?_, (h3 off T u hT hu).1⟩
    simp only [execOp, h1]
    simp [run_field w hf, run_partAt w hag (show vs.toArray[off]? = some u by simpa using hu)]
theorem op_fieldA {x : Operand} {ts ts' : List Ty} {s ft : TypeId} {i off n : Nat} (hx : Opd E x = some (TAgg ts)) (hf : fieldAtT P s i = some (ft, off)) (hag : aggB P ft = some true) (hsz : (P.info? ft).map (·.size) = some n) (hT : (ts.drop off).take n = ts') (hn : ts'.length = n) : OpP P L E ⟨dst, .field s x i, ty, pos, after, gd⟩ (TAgg ts') :=
  OpP.same fun a w G S _ _ ho => by
    obtain ⟨vs, h1, h2, h3⟩ := ho x (by simp [Op.operands]) _ hx
    refine ⟨.agg ((vs.drop off).take n).toArray, ?_, _, rfl, ?_, ?_⟩
    · simp only [execOp, h1]
      simp [run_field w hf, part, run_isAgg hag, run_sizeOf hsz]
    · have := congrArg List.length hT
      simp only [List.length_take, List.length_drop] at this ⊢
      omega
    · intro j T u e1 e2
      subst hT
      rw [List.getElem?_take] at e1 e2
      split at e1
      · rw [List.getElem?_drop] at e1
        rw [if_pos (by assumption), List.getElem?_drop] at e2
        exact h3 _ _ _ e1 e2
      · cases e1

/-- Where a part of a struct or an array lies, and how many cells it has. -/
def placeOf (P : Program) (t : TypeId) (i : Nat) : Option (Nat × Nat) :=
  match P.underlying t with
  | some (.struct fields) => (fields[i]?).bind fun f => (P.info? f.type).map fun inf => (f.offset, inf.size)
  | some (.array _ e) => (P.info? e).map fun inf => (i * inf.size, inf.size)
  | _ => none
def placesOk (P : Program) (t : TypeId) : Bool :=
  match P.underlying t with
  | some (.struct fields) => fields.toList.all fun f => (P.info? f.type).isSome
  | some (.array _ e) => (P.info? e).isSome
  | _ => false
def segT (ts : List Ty) (off : Nat) (cts : List Ty) : List Ty := ts.take off ++ cts ++ ts.drop (off + cts.length)
def BuildOk (P : Program) (E : Env) (t : TypeId) : List (Nat × Operand) → List Ty → List Ty → Prop
  | [], ts, ts' => ts = ts'
  | (i, x) :: r, ts, ts' => ∃ T cts off, Opd E x = some T ∧ CellsOf T cts ∧ placeOf P t i = some (off, cts.length) ∧ Nat.ble (off + cts.length) ts.length = true ∧ BuildOk P E t r (segT ts off cts) ts'
theorem BuildOk.nil {t : TypeId} {ts : List Ty} : BuildOk P E t [] ts ts := rfl
theorem BuildOk.cons {t : TypeId} {i : Nat} {x : Operand} {r : List (Nat × Operand)} {ts ts1 ts' : List Ty} {T : Ty} {cts : List Ty} {off : Nat} (hx : Opd E x = some T) (hc : CellsOf T cts) (hp : placeOf P t i = some (off, cts.length)) (hl : Nat.ble (off + cts.length) ts.length = true) (hs : segT ts off cts = ts1) (k : BuildOk P E t r ts1 ts') : BuildOk P E t ((i, x) :: r) ts ts' :=
  ⟨T, cts, off, hx, hc, hp, hl, by rw [hs]; exact k⟩

/-- Cells that are as types say. -/
def CellsT (G : Imm) (cs : Array Value) (ts : List Ty) : Prop := cs.size = ts.length ∧ ∀ (j : Nat) (T : Ty), ts[j]? = some T → ∃ u, cs[j]? = some u ∧ T.p G u ∧ u.oneCell' = true
theorem CellsT.seg {G : Imm} {cs : Array Value} {ts cts : List Ty} {vs : List Value} {off : Nat} (h : CellsT G cs ts) (hl : vs.length = cts.length) (hv : ∀ (j : Nat) (U : Ty) (u : Value), cts[j]? = some U → vs[j]? = some u → U.p G u ∧ u.oneCell' = true) (hle : off + cts.length ≤ ts.length) :
    CellsT G ((vs.zipIdx 0).foldl (fun cs (x : Value × Nat) => cs.setIfInBounds (off + x.2) x.1) cs) (segT ts off cts) := by
  obtain ⟨g1, g2⟩ := foldl_set off vs 0 cs
  obtain ⟨h1, h2⟩ := h
  refine ⟨by rw [g1, h1, segT]; simp; omega, fun j T hj => ?_⟩
  rw [g2 j]
  unfold segT at hj
  rw [List.append_assoc, List.getElem?_append] at hj
  simp only [List.length_take, Nat.add_zero] at hj ⊢
  by_cases hjo : j < off
  · rw [if_pos (by omega), List.getElem?_take, if_pos hjo] at hj
    rw [if_neg (by omega)]
    exact h2 j T hj
  · rw [if_neg (by omega), show min off ts.length = off from by omega, List.getElem?_append] at hj
    by_cases hjn : j - off < cts.length
    · rw [if_pos hjn] at hj
      rw [if_pos (by omega)]
      obtain ⟨u, hu⟩ : ∃ u, vs[j - off]? = some u := ⟨_, List.getElem?_eq_getElem (by omega)⟩
      exact ⟨u, hu, hv _ _ _ hj hu⟩
    · rw [if_neg hjn, List.getElem?_drop] at hj
      rw [if_neg (by omega)]
      obtain ⟨u, b⟩ := h2 _ T hj
      exact ⟨u, by rw [← b.1]; congr 1; omega, b.2⟩
theorem BuildOk.fill {t : TypeId} {G : Imm} {a : Act} (place : Nat → Option (Nat × Nat)) (hplace : ∀ i p, placeOf P t i = some p → place i = some p) : ∀ (ps : List (Nat × Operand)) (ts ts' : List Ty) (cs : Array Value), BuildOk P E t ps ts ts' → (∀ q ∈ ps, ∀ T, Opd E q.2 = some T → T.p G (a.eval q.2)) → CellsT G cs ts →
    ∃ cs', Instr.fill place cs (ps.map fun q => (q.1, a.eval q.2)) = some cs' ∧ CellsT G cs' ts'
  | [], ts, ts', cs, h, _, hc => by cases h; exact ⟨cs, rfl, hc⟩
  | (i, x) :: r, ts, ts', cs, ⟨T, cts, off, hx, hcT, hp, hl, k⟩, ho, hc => by
    have hv := ho (i, x) (by simp) T hx
    obtain ⟨h1, h2⟩ := hcT G _ hv
    have hl' := Nat.le_of_ble_eq_true hl
    have hsize : (a.eval x).cells.size = cts.length := by simpa using h1
    have hseg := hc.seg (vs := (a.eval x).cells.toList) (off := off) h1 h2 hl'
    obtain ⟨cs', h3, h4⟩ := BuildOk.fill place hplace r _ ts' _ k (fun q hq => ho q (by simp [hq])) hseg
    refine ⟨cs', ?_, h4⟩
    simp only [List.map_cons, Instr.fill, hplace i _ hp]
    rw [if_neg (by simp only [hsize, hc.1]; simp; omega)]
    have hz : (a.eval x).cells.zipIdx.foldl (fun cs (y : Value × Nat) => cs.setIfInBounds (off + y.2) y.1) cs = ((a.eval x).cells.toList.zipIdx 0).foldl (fun cs (y : Value × Nat) => cs.setIfInBounds (off + y.2) y.1) cs := by
      rw [← Array.foldl_toList]; simp
    rw [hz]; exact h3
theorem run_places {fields : Array Field} (w : World) (h : (fields.toList.all fun f => (P.info? f.type).isSome) = true) : ∃ pl : Array (Nat × Nat), (fields.mapM fun f : Field => do pure (f.offset, ← sizeOf f.type) : Sem _).run P w = .ok pl w ∧ ∀ (i : Nat) p, (fields[i]?).bind (fun f : Field => (P.info? f.type).map fun inf => (f.offset, inf.size)) = some p → pl[i]? = some p := by
  have key : ∀ l : List Field, (l.all fun f => (P.info? f.type).isSome) = true → ∃ pl : List (Nat × Nat), (List.mapM (fun f : Field => do pure (f.offset, ← sizeOf f.type)) l : Sem _).run P w = .ok pl w ∧ ∀ (i : Nat) p, (l[i]?).bind (fun f : Field => (P.info? f.type).map fun inf => (f.offset, inf.size)) = some p → pl[i]? = some p := by
    intro l
    induction l with
    | nil => intro _; exact ⟨[], by simp, by simp⟩
    | cons f l ih =>
      intro h
      simp only [List.all_cons, Bool.and_eq_true] at h
      obtain ⟨pl, h1, h2⟩ := ih h.2
      obtain ⟨inf, hi⟩ := Option.isSome_iff_exists.1 h.1
      refine ⟨(f.offset, inf.size) :: pl, ?_, ?_⟩
      · simp only [List.mapM_cons, Sem.run_bind, run_sizeOf (P := P) (t := f.type) (n := inf.size) (by rw [hi]; rfl) w, Result.andThen_ok, Sem.run_pure, h1]
      · intro i p e
        cases i with
        | zero => simp [hi] at e; simp [e]
        | succ i => simpa using h2 i p (by simpa using e)
  obtain ⟨pl, h1, h2⟩ := key fields.toList h
  refine ⟨pl.toArray, ?_, fun i p e => by simpa using h2 i p (by simpa using e)⟩
  rw [← Array.toArray_toList (xs := fields), List.mapM_toArray, Sem.run_map, h1]
  rfl
theorem op_build {t : TypeId} {parts : Array (Nat × Operand)} {z : Value} {zs : List Value} {ts ts' : List Ty} (hz : (P.info? t).map (·.zero) = some (some z)) (hc : z.cells.toList = zs) (ht : LitT zs ts) (hok : placesOk P t = true) (hb : BuildOk P E t parts.toList ts ts') : OpP P L E ⟨dst, .build t parts, ty, pos, after, gd⟩ (TAgg ts') :=
  OpP.same fun a w G S _ _ ho => by
    obtain ⟨l1, l2⟩ := LitT.at zs ts ht
    have hcells : CellsT G z.cells ts := by
      refine ⟨by rw [← Array.length_toList, hc, l1], fun j T hj => ?_⟩
      obtain ⟨u, b1, b2, b3⟩ := l2 j T hj
      exact ⟨u, by rw [← hc] at b1; simpa using b1, T.mono (fun _ _ _ h => by cases h) b2, b3⟩
    have hops : ∀ q ∈ parts.toList, ∀ T, Opd E q.2 = some T → T.p G (a.eval q.2) := fun q hq T hT => ho q.2 (by
      have hq' : q.2 ∈ partsOf parts := List.mem_map.2 ⟨q, hq, rfl⟩
      simp only [Op.operands]
      simpa [partsOf] using hq') T hT
    have hpl : (parts.map fun (i, x) => (i, a.eval x)).toList = parts.toList.map fun q => (q.1, a.eval q.2) := by simp
    have fin : ∀ (cs' : Array Value), CellsT G cs' ts' → (TAgg ts').p G (.agg cs') := fun cs' h => ⟨cs'.toList, by simp, by simpa using h.1, fun j T u e1 e2 => by
      obtain ⟨u', b1, b2⟩ := h.2 j T e1
      have e3 : cs'[j]? = some u := by simpa using e2
      rw [b1] at e3; cases e3; exact b2⟩
    unfold placesOk at hok
    cases hu : P.underlying t with
    | none => rw [hu] at hok; cases hok
    | some d =>
      rw [hu] at hok
      cases d <;> try (simp at hok; done)
      · rename_i n e
        obtain ⟨inf, hinf⟩ := Option.isSome_iff_exists.1 hok
        obtain ⟨cs', h1, h2⟩ := hb.fill (a := a) (G := G) (fun i => some (i * inf.size, inf.size)) (fun i p e' => by
          unfold placeOf at e'; rw [hu] at e'; simpa [hinf] using e') _ _ _ _ hops hcells
        refine ⟨.agg cs', ?_, fin _ h2⟩
        rw [← hpl] at h1
        simp only [execOp]
        simp only [Instr.build, Sem.run_bind, run_zeroValue hz, Result.andThen_ok, run_underlying hu, run_sizeOf (P := P) (t := e) (n := inf.size) (by rw [hinf]; rfl), h1, Sem.run_pure]
      · rename_i fields
        obtain ⟨pl, p1, p2⟩ := run_places (P := P) w hok
        obtain ⟨cs', h1, h2⟩ := hb.fill (a := a) (G := G) (fun i => pl[i]?) (fun i p e' => by
          unfold placeOf at e'; rw [hu] at e'; exact p2 i p e') _ _ _ _ hops hcells
        refine ⟨.agg cs', ?_, fin _ h2⟩
        rw [← hpl] at h1
        simp only [execOp]
        simp only [Instr.build, Sem.run_bind, run_zeroValue hz, Result.andThen_ok, run_underlying hu, p1, h1, Sem.run_pure]
end
end Go.Vk
