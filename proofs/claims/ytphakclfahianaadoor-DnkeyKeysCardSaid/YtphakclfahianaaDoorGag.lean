/-
  The rules of the program logic for strings that share a row of bytes of one's own (unsafe.SliceData, unsafe.String). Nothing here speaks of a program; no conditions.
  Rows of one's own that are written in place: slices and arrays whose elements may be turned. Nothing here speaks of a program; no conditions.
-/
import Derived.Test.YtphakclfahianaaDoorGaf
import Derived.Lib.UnsafeStr
import Derived.Lib.AppendStr
set_option linter.unusedSimpArgs false
set_option linter.unusedVariables false
set_option linter.unusedVariables false
namespace Go.Vk
theorem freeze_n (w : World) (g o n : Nat) (cs : Array Value) (e : TypeId) (fr : Nat × Nat) (h : w.heap[g]? = some (.cells cs e fr)) : ∃ fr', (w.freeze ⟨g, o, none⟩ n).heap[g]? = some (.cells cs e fr') := by
  by_cases hn : n = 0
  · exact ⟨fr, by simp [World.freeze, hn, h]⟩
  have hlt : g < w.heap.size := (Array.getElem?_eq_some_iff.1 h).1
  have hv : w.heap[g] = .cells cs e fr := (Array.getElem?_eq_some_iff.1 h).2
  obtain ⟨lo, hi⟩ := fr
  refine ⟨if lo == hi then (o, o + n) else (min lo o, max hi (o + n)), ?_⟩
  simp only [World.freeze, if_neg hn]
  rw [Array.getElem?_eq_getElem (by simpa using hlt), Array.getElem_modify]
  simp [hv]
theorem freeze_ext {G : Imm} {w : World} (hs : Sat G w) (g o n : Nat) (cs : Array Value) (e : TypeId) (fr : Nat × Nat) (h3 : w.heap[g]? = some (.cells cs e fr)) : Ext (fun b => b = g) G w G (w.freeze ⟨g, o, none⟩ n) := by
  obtain ⟨fr', hf⟩ := freeze_n w g o n cs e fr h3
  have hoth : ∀ b, b ≠ g → (w.freeze ⟨g, o, none⟩ n).heap[b]? = w.heap[b]? := fun b hb => by
    unfold World.freeze
    split
    · rfl
    · simp only [Array.getElem?_modify]
      rw [if_neg (fun e => hb e.symm)]
  have hsat : Sat G (w.freeze ⟨g, o, none⟩ n) := by
    intro b o' u hb
    have := hs b o' u hb
    by_cases hbg : b = g
    · subst hbg
      simp only [World.cell?, h3, hf] at this ⊢
      exact this
    · simp only [World.cell?] at this ⊢
      rw [hoth b hbg]; exact this
  refine ⟨hsat, Imm.le.refl G, ?_, ?_, ?_, ?_, fun b _ hb => ⟨hoth b hb, fun _ => rfl⟩⟩ <;> (unfold World.freeze; split <;> simp)
section
variable {P : Program} {L : List Res} {E : Env} {dst : Option Tmp} {ty : TypeId} {pos : String} {after : Array Edge} {gd : Option (Nat × Bool)}
/-- What unsafe.SliceData tells of the slice v that reads as l. -/
def TData (v : Value) (l : List UInt8) : Ty := ⟨fun G u => (TBytes l).p G v ∧ ∃ pa, u = .pointer pa ∧ ∀ a n c, v = .slice (some a) n c → c ≠ 0 → pa = some a, fun h ⟨k, r⟩ => ⟨(TBytes l).mono h k, r⟩⟩
theorem op_sliceData {x : Operand} {t e e' : TypeId} {l : List UInt8} {v : Value} (i : Nat) (hx : Opd E x = some (TAnd (Is v) (TBytes l))) (hL : L[i]? = some (ownSl v 1 e)) (hp : P.underlying ty = some (.pointer e')) :
    OpP P L E ⟨dst, .call { callee := .builtin .unsafeSliceData, args := #[x], argTypes := #[t] }, ty, pos, after, gd⟩ (TData v l) :=
  OpP.laid fun a w G S hs ho ht => by
    have hxx := ht x (by simp [Op.operands, Call.operands]) _ hx
    have hxv : a.eval x = v := hxx.1
    have hsl : (TBytes l).p G v := by have := hxx.2; rwa [hxv] at this
    rcases ho.res i _ hL with ⟨h1, _⟩ | ⟨g, n, cap, cs, h1, h2, h3, h4, h5, h6, h7⟩
    · refine ⟨.pointer none, w, G, ?_, Ext.refl hs, hsl, none, rfl, fun a n c hv => by rw [h1] at hv; simp at hv⟩
      have hr := Lib.run_unsafeSliceData_nil (P := P) w #[t] ty 0 0
      simp [execOp, resolve, invoke, builtin, hxv, h1, hr]
    · by_cases hc : cap = 0
      · subst hc
        have hr := Lib.run_unsafeSliceData_zero (P := P) w #[t] ty e' hp ⟨g, 0, none⟩ n (e, cs.size) (by simp [World.shape?, h3])
        have hext := Ext.new hs [] (.view ⟨g, 0, none⟩ e') (fun j v hj => by simp at hj) (w.alloc (.view ⟨g, 0, none⟩ e')) rfl rfl rfl rfl
        refine ⟨.pointer (some ⟨w.heap.size, 0, none⟩), w.alloc (.view ⟨g, 0, none⟩ e'), _, ?_, hext, (TBytes l).mono hext.le hsl, _, rfl, fun a n c hv hc => by rw [h1] at hv; simp at hv; omega⟩
        simp [execOp, resolve, invoke, builtin, hxv, h1, hr]
      · have hr := Lib.run_unsafeSliceData_row (P := P) w #[t] ty ⟨g, 0, none⟩ n cap hc
        refine ⟨.pointer (some ⟨g, 0, none⟩), w, G, ?_, Ext.refl hs, hsl, _, rfl, fun a n c hv _ => by rw [h1] at hv; simp at hv; rw [hv.1]⟩
        simp [execOp, resolve, invoke, builtin, hxv, h1, hr]
theorem oc_unsafeString {x y : Operand} {pt it e : TypeId} {l : List UInt8} {v : Value} {L' : List Res} (i : Nat) (hx : Opd E x = some (TData v l)) (hy : Opd E y = some (okI .i64 (l.length : Int))) (hL : L[i]? = some (ownSl v 1 e)) (hp : P.underlying pt = some (.pointer e)) (hc : P.cellsOf e = 1) (hL' : L.set i empR = L') :
    OpC P L E ⟨dst, .call { callee := .builtin .unsafeString, args := #[x, y], argTypes := #[pt, it] }, ty, pos, after, gd⟩ (fun _ => Is (str l)) (fun _ => L') := by
  subst hL'
  intro a w G S hs ho ht K Q k
  obtain ⟨hsl, pa, hxv, hpa⟩ := ht x (by simp [Op.operands, Call.operands]) _ hx
  have hyv : a.eval y = .int .i64 (l.length : Int) := ht y (by simp [Op.operands, Call.operands]) _ hy
  have hiL : i < L.length := (List.getElem?_eq_some_iff.1 hL).1
  have key : ∃ w' , (execOp a.eval (⟨dst, .call { callee := .builtin .unsafeString, args := #[x, y], argTypes := #[pt, it] }, ty, pos, after, gd⟩ : Oper)).run P w = .ok (.value (str l)) w' ∧ Ext (S i) G w G w' := by
    obtain ⟨av, capv, ev, hlcv, hcmv, -, hnilv, hadv⟩ := id hsl
    by_cases h0 : l = []
    · subst h0
      refine ⟨w, ?_, Ext.refl hs⟩
      have hr := Lib.run_unsafeString_none (P := P) w pt it ty pa
      simp only [execOp, resolve, hxv, hyv]
      simp [invoke, builtin, hxv, hyv, hr, str]
      rfl
    · have hl0 : 0 < l.length := List.length_pos_iff.2 h0
      rcases ho.res i _ hL with ⟨h1, _⟩ | ⟨g, n, cap, cs, h1, h2, h3, h4, h5, h6, h7⟩
      · rw [ev] at h1; simp at h1; omega
      · rw [h1] at ev
        simp only [Value.slice.injEq] at ev
        obtain ⟨e1, e2, e3⟩ := ev
        subst e2; subst e3; subst e1
        have hpa' := hpa ⟨g, 0, none⟩ _ _ h1 (by omega)
        subst hpa'
        obtain ⟨_, hel⟩ := hadv _ rfl
        have hr := Lib.run_unsafeString_row (P := P) w pt it ty e hp hc g cs.size (by simp [World.shape?, h3]) l h0 (by omega) (by unfold maxLen at h5; omega) (fun j z hz => by
          obtain ⟨_, hcc⟩ := hel j z hz
          obtain ⟨u, hu, hT, _⟩ := hcc 0 _ rfl
          cases hT
          have := hs _ _ _ hu
          unfold Addr.add
          split
          · subst j; simpa using this
          · simpa using this)
        refine ⟨w.freeze ⟨g, 0, none⟩ l.length, ?_, ?_⟩
        · simp only [execOp, resolve, hxv, hyv]
          simp [invoke, builtin, hxv, hyv, hr, str]
        · have := freeze_ext hs g 0 l.length cs e (0, 0) h3
          have hS : S i = fun b => b = g := funext fun b => propext (h2 b)
          rw [hS]; exact this
  obtain ⟨w', hr, hext⟩ := key
  simp only [Oper.wp, hr, Oper.upon_value]
  refine k (str l) w' G _ ⟨hext.sat, hext.le, hext.os, hext.tape, hext.output, hext.size, fun b hb hz => hext.blk b hb (fun e => hz ⟨i, e⟩)⟩ (ho.set hext hiL (fun b e => e) empR (fun _ => False) (fun _ z => z.elim) trivial) ?_ rfl
  intro j b hb
  by_cases hj : j = i
  · simp [hj] at hb
  · simp only [hj, if_false] at hb; exact .inr ⟨j, hb⟩
/-- A string's bytes, put behind a slice of one's own. -/
theorem run_append_str {l m : List UInt8} {t u tyy e : TypeId} (hu : P.underlying t = some (.slice e)) (hus : P.underlying u = some .string) (hinf : ByteEl P e)
    {S : Nat → Nat → Prop} {G : Imm} {w : World} (hs : Sat G w) (ho : Owns S L G w) {v : Value} {i : Nat} (hL : L[i]? = some (ownSl v 1 e)) (hv : (TSl 1 cB l).p G v) (hb0 : l.length + m.length ≤ 140737488355328) :
    ∃ v' w' G' S', (Builtin.append_ #[t, u] tyy #[v, str m]).run P w = .ok v' w' ∧ Ext (fun b => ∃ i, S i b) G w G' w' ∧ Owns S' (L.set i (ownSl v' 1 e)) G' w' ∧ (∀ i b, S' i b → w.heap.size ≤ b ∨ ∃ j, S j b) ∧ (TSl 1 cB (l ++ m)).p G' v' := by
  obtain ⟨sz, hsz⟩ : ∃ sz : Nat, sz = 1 := ⟨1, rfl⟩
  obtain ⟨by_, hby⟩ : ∃ by_ : Nat, by_ = 1 := ⟨1, rfl⟩
  have hb : (l.length + m.length) * by_ ≤ 140737488355328 := by subst hby; omega
  have hm : l.length + m.length ≤ maxLen := by simp only [maxLen]; omega
  obtain ⟨z, hzz⟩ : ∃ z : Value, z = .int .u8 0 := ⟨_, rfl⟩
  have hz : z.cells.size = sz := by subst hzz; subst hsz; rfl
  have hinf : (P.info? e).map (fun i => (i.zero, i.size, i.bytes)) = some (some z, sz, by_) := by subst hzz; subst hsz; subst hby; exact hinf
  rw [← hsz] at hL hv ⊢
  let f : UInt8 → List Ty := cB
  obtain ⟨inf, hi, hiz, his, hib⟩ := info_parts hinf
  have hiL : i < L.length := (List.getElem?_eq_some_iff.1 hL).1
  have hres := ho.res i _ hL
  obtain ⟨av, capv, ev, hlcv, hcmv, -, hnilv, hadv⟩ := hv
  have hxs : (str m) = .string ⟨m.toArray⟩ := rfl
  have hsize : (⟨m.toArray⟩ : ByteArray).size = m.length := size_str m
  have hfm : ∀ y ∈ m, (f y).length = sz := fun y hy => by rw [hsz]; rfl
  have hfl : ∀ y ∈ l, (f y).length = sz := fun y hy => by
    obtain ⟨k, hk, e⟩ := List.getElem_of_mem hy
    cases av with
    | none => have := hnilv rfl; omega
    | some ad => exact ((hadv ad rfl).2 k y (by rw [List.getElem?_eq_getElem hk, e])).1
  have hf : ∀ y ∈ l ++ m, (f y).length = sz := fun y hy => (List.mem_append.1 hy).elim (hfl y) (hfm y)
  obtain ⟨news, hnews⟩ : ∃ news, news = Lib.byteCells m := ⟨_, rfl⟩
  have hcells : Lib.strCells ⟨m.toArray⟩ = news := by rw [Lib.strCells_eq, hnews]
  have hnl : news.length = m.length * sz := by rw [hnews, Lib.byteCells_length, hsz, Nat.mul_one]
  have hnT : ∀ (i : Nat) (y : UInt8), m[i]? = some y → ∀ (j : Nat) (T : Ty), (f y)[j]? = some T → ∃ u, news[i * sz + j]? = some u ∧ T.p G u ∧ u.oneCell' = true := by
    intro i y hy j T hT
    have hj : j = 0 := by have := (List.getElem?_eq_some_iff.1 hT).1; simp only [f, cB, List.length_singleton] at this; omega
    subst hj
    simp only [f, cB, List.getElem?_cons_zero, Option.some.injEq] at hT
    subst hT
    refine ⟨.int .u8 y.toNat, ?_, rfl, rfl⟩
    rw [hnews, hsz, Nat.mul_one, Nat.add_zero]
    simp [Lib.byteCells, hy]
  have hnl' : news.length = m.length * inf.size := by rw [his]; exact hnl
  have hTall : ∀ xs : List Value, xs.length = l.length * sz → (∀ (i : Nat) (y : UInt8), l[i]? = some y → ∀ (j : Nat) (T : Ty), (f y)[j]? = some T → ∃ u, xs[i * sz + j]? = some u ∧ T.p G u ∧ u.oneCell' = true) →
      ∀ (i : Nat) (y : UInt8), (l ++ m)[i]? = some y → ∀ (j : Nat) (T : Ty), (f y)[j]? = some T → ∃ u, (xs ++ news)[i * sz + j]? = some u ∧ T.p G u ∧ u.oneCell' = true := by
    intro xs hxl hxT i y hy j T hT
    have hjl := (List.getElem?_eq_some_iff.1 hT).1
    by_cases hil : i < l.length
    · rw [List.getElem?_append_left hil] at hy
      obtain ⟨u, h1, h2, h3⟩ := hxT i y hy j T hT
      exact ⟨u, by rw [List.getElem?_append_left (List.getElem?_eq_some_iff.1 h1).1]; exact h1, h2, h3⟩
    · rw [List.getElem?_append_right (by omega)] at hy
      obtain ⟨u, h1, h2, h3⟩ := hnT _ y hy j T hT
      refine ⟨u, ?_, h2, h3⟩
      have e1 : i * sz = l.length * sz + (i - l.length) * sz := by rw [← Nat.add_mul]; congr 1; omega
      rw [List.getElem?_append_right (by rw [hxl]; omega), hxl, ← h1]
      congr 1; omega
  have hsmall : l.length + m.length ≤ 9223372036854775807 := by simp only [maxLen] at hm; omega
  -- a new row
  have hgrown : ∀ (old : Nat) (xs : List Value), xs.length = l.length * sz → (∀ (i : Nat) (y : UInt8), l[i]? = some y → ∀ (j : Nat) (T : Ty), (f y)[j]? = some T → ∃ u, xs[i * sz + j]? = some u ∧ T.p G u ∧ u.oneCell' = true) →
      (Builtin.append_ #[t, u] tyy #[v, str m]).run P w = .ok (.slice (some ⟨w.heap.size, 0, none⟩) (l.length + m.length) (grownCap w (l.length + m.length) old e)) (w.drew.alloc (.cells (xs.toArray ++ news.toArray ++ Builtin.zeroCells z.cells (grownCap w (l.length + m.length) old e - (l.length + m.length))) e)) →
      ∃ v' w' G' S', (Builtin.append_ #[t, u] tyy #[v, str m]).run P w = .ok v' w' ∧ Ext (fun b => ∃ i, S i b) G w G' w' ∧ Owns S' (L.set i (ownSl v' sz e)) G' w' ∧ (∀ i b, S' i b → w.heap.size ≤ b ∨ ∃ j, S j b) ∧ (TSl sz f (l ++ m)).p G' v' := by
    intro old xs hxl hxT hrun
    have hge := grownCap_ge w (l.length + m.length) old e
    have hcm := grownCap_le_maxLen w (l.length + m.length) old e hm
    obtain ⟨hext, hsl, hown⟩ := fresh_sl (f := f) (sz := sz) (l := l ++ m) (vs := xs ++ news) (cap := grownCap w (l.length + m.length) old e) (w1 := w.drew.alloc (.cells (xs.toArray ++ news.toArray ++ Builtin.zeroCells z.cells (grownCap w (l.length + m.length) old e - (l.length + m.length))) e)) (fr := (0, 0)) hs rfl rfl rfl rfl
      (by simp only [Array.toList_append, List.append_assoc]; rw [← List.append_assoc]; exact List.take_left) (by simpa using hge) hcm (by simp [hxl, hnl, Nat.add_mul]) hf (hTall xs hxl hxT)
    have hsl' := hsl false (fun e => by cases e)
    have hown' := hown (by simp only [Array.size_append, List.size_toArray, size_zeroCells, hz, hxl, hnl, ← Nat.add_mul]; congr 1; omega) rfl
    rw [List.length_append] at hsl' hown'
    refine ⟨_, _, _, _, hrun, ⟨hext.sat, hext.le, hext.os, hext.tape, hext.output, hext.size, fun b hb' _ => hext.blk b hb' (fun z => z)⟩, ho.set (Z := noZ) hext hiL (fun _ z => z.elim) _ _ (fun b hb' => ?_) hown', ?_, hsl'⟩
    · subst hb'; exact ⟨.inr (Nat.le_refl _), by simp⟩
    · intro j b hb'
      by_cases hj : j = i
      · simp only [hj, if_true] at hb'; exact .inl (by omega)
      · simp only [hj, if_false] at hb'; exact .inr ⟨j, hb'⟩
  rcases hres with ⟨hn, hnS⟩ | ⟨g, n, cap, cs, h1, h2, h3, h4, h5, h6, h7⟩
  · have hl0 : l = [] := by
      rw [hn] at ev; simp only [Value.slice.injEq] at ev
      exact List.eq_nil_of_length_eq_zero ev.2.1.symm
    subst hl0
    by_cases hm0 : m.length = 0
    · have : m = [] := List.eq_nil_of_length_eq_zero hm0
      subst this
      have hn0 : news = [] := List.eq_nil_of_length_eq_zero (by simpa using hnl)
      refine ⟨.slice none 0 0, w, G, S, ?_, Ext.refl hs, ?_, fun i b h => .inr ⟨i, h⟩, TSlX.sl (nil_sl sz f G)⟩
      · subst hn
        have hfc := Lib.run_firstCells_string (P := P) w inf.size ⟨([] : List UInt8).toArray⟩
        have e0 : (⟨([] : List UInt8).toArray⟩ : ByteArray).size = 0 := rfl
        rw [e0] at hfc
        simp [hxs, Builtin.append_, run_underlying hu, run_underlying hus, sizeOf, typeInfo, hi, Builtin.lenOf, hfc, e0]
      · rw [set_self (by rw [← hn]; exact hL)]; exact ho
    · refine hgrown 0 [] (by simp) (by simp) ?_
      have hr := run_append_nil_string (P := P) w t u tyy e inf z hu hus hi hiz ⟨m.toArray⟩ (by omega) (by simp at hsmall; omega) (by rw [hib, hsize]; simp only [List.length_nil, Nat.zero_add] at hb; omega)
      have e1 : ((⟨m.toArray⟩ : ByteArray).data.map fun b => Value.int .u8 b.toNat) = news.toArray := by
        apply Array.ext'
        rw [hnews]; simp [Lib.byteCells]
      rw [e1, hsize] at hr
      subst hn
      rw [hxs, hr]; simp
  · rw [h1] at ev
    simp only [Value.slice.injEq] at ev
    obtain ⟨rfl, rfl, rfl⟩ := ev
    obtain ⟨_, helv⟩ := hadv ⟨g, 0, none⟩ rfl
    obtain ⟨xs, hxl, hxG, hxT⟩ := sl_values (b := g) (o := 0) (f := f) (sz := sz) (l := l) (G := G) helv
    have hxc : ∀ (j : Nat) (u : Value), xs[j]? = some u → cs[j]? = some u := by
      intro j u hj
      have hcell := hs _ _ _ (hxG j u hj).1
      simp only [World.cell?, h3] at hcell
      simpa using hcell
    have htake : cs.toList.take (l.length * sz) = xs := by
      apply List.ext_getElem?
      intro j
      rw [List.getElem?_take]
      by_cases hj : j < l.length * sz
      · rw [if_pos hj]
        obtain ⟨u, hu'⟩ : ∃ u, xs[j]? = some u := ⟨_, List.getElem?_eq_getElem (by omega)⟩
        rw [hu']; simpa using hxc j u hu'
      · rw [if_neg hj, List.getElem?_eq_none (by omega)]
    by_cases hroom : l.length + m.length ≤ cap
    · -- in place
      have hfit : l.length * inf.size + news.length ≤ cs.size := by rw [hnl, his, h6, ← Nat.add_mul]; exact Nat.mul_le_mul_right _ hroom
      have hr := Lib.run_append_room_string (P := P) w t u tyy e inf hu hus hi (by rw [his, hsz]) g l.length cap cs h3 ⟨m.toArray⟩ (by rw [hsize]; exact hroom) (by rw [hsize]; rw [hnl, hsz, his, hsz] at hfit; omega)
      rw [hsize, hcells] at hr
      have hn1 : news.length = m.length := by rw [hnl, hsz, Nat.mul_one]
      have hn2 : l.length * inf.size = l.length := by rw [his, hsz, Nat.mul_one]
      have hSg : S i g := (h2 g).2 rfl
      have hlen : (xs ++ news).length = (l.length + m.length) * sz := by rw [List.length_append, hxl, hnl, Nat.add_mul]
      let cs' : Array Value := (cs.toList.take l.length ++ news ++ cs.toList.drop (l.length + m.length)).toArray
      have hw' : (w.setRow g cs').heap[g]? = some (.cells cs' e (0, 0)) := setRow_heap w g cs cs' e (0, 0) h3
      have hoth : ∀ b, b ≠ g → (w.setRow g cs').heap[b]? = w.heap[b]? := fun b hb' => setRow_other w g b cs' hb'
      have hcs' : ∀ (j : Nat) (u : Value), (xs ++ news)[j]? = some u → cs'[j]? = some u := by
        intro j u hj
        have : cs'.toList[j]? = some u := by
          show (cs.toList.take l.length ++ news ++ cs.toList.drop (l.length + m.length))[j]? = some u
          rw [show cs.toList.take l.length = xs by rw [← htake, hsz, Nat.mul_one], List.getElem?_append_left (List.getElem?_eq_some_iff.1 hj).1]; exact hj
        simpa using this
      let G' : Imm := fun b o => if b = g then (xs ++ news)[o]? else G b o
      have hle : Imm.le G G' := by
        intro b o u hbo
        show (if b = g then (xs ++ news)[o]? else G b o) = some u
        by_cases hbg : b = g
        · rw [if_pos hbg]; subst hbg
          have ho' : o < l.length * sz := by
            rcases Nat.lt_or_ge o (l.length * sz) with h | h
            · exact h
            · rw [h7 o h] at hbo; cases hbo
          obtain ⟨u', hu'⟩ : ∃ u', xs[o]? = some u' := ⟨_, List.getElem?_eq_getElem (by omega)⟩
          have := (hxG o u' hu').1
          simp only [Nat.zero_add] at this
          rw [List.getElem?_append_left (by omega), hu', ← this, hbo]
        · rw [if_neg hbg]; exact hbo
      have hsat : Sat G' (w.setRow g cs') := by
        intro b o u hbo
        change (if b = g then (xs ++ news)[o]? else G b o) = some u at hbo
        by_cases hbg : b = g
        · rw [if_pos hbg] at hbo; subst hbg
          simp only [World.cell?, hw']
          simpa using hcs' o u hbo
        · rw [if_neg hbg] at hbo
          have h1' := hs _ _ _ hbo
          simp only [World.cell?] at h1' ⊢
          rw [hoth b hbg]; exact h1'
      have hext : Ext (fun b => b = g) G w G' (w.setRow g cs') := ⟨hsat, hle, rfl, rfl, rfl, by simp [World.setRow], fun b _ hbg => ⟨hoth b hbg, fun o => if_neg hbg⟩⟩
      have hss : (TSl sz f (l ++ m)).p G' (.slice (some ⟨g, 0, none⟩) (l.length + m.length) cap) := by
        have := sl_of_values (f := f) (sz := sz) (l := l ++ m) (G := G') (g := g) (cap := cap) (x := false) (vs := xs ++ news) (by simpa using hroom) h5 (fun e => by cases e) hf
          (fun i y hy j T hT => by obtain ⟨u, a1, a2, a3⟩ := hTall xs hxl hxT i y hy j T hT; exact ⟨u, a1, T.mono hle a2, a3⟩) (fun j u hj => by show (if g = g then _ else _) = _; rw [if_pos rfl]; exact hj)
        rw [List.length_append] at this; exact this
      refine ⟨_, _, G', _, by rw [h1, hxs]; exact hr, ⟨hext.sat, hext.le, hext.os, hext.tape, hext.output, hext.size, fun b hb' hz' => hext.blk b hb' (fun e => hz' ⟨i, by rw [e]; exact hSg⟩)⟩,
        ho.set hext hiL (fun b e => by rw [e]; exact hSg) _ (fun b => b = g) (fun b e => ⟨.inl (by rw [e]; exact hSg), by rw [e]; exact (Array.getElem?_eq_some_iff.1 hw').1⟩)
          (.inr ⟨g, l.length + m.length, cap, cs', rfl, fun b => Iff.rfl, hw', hroom, h5, ?_, fun o ho' => ?_⟩), ?_, hss⟩
      · simp only [cs', List.size_toArray, List.length_append, List.length_take, List.length_drop, Array.length_toList]
        rw [h6]; rw [h6] at hfit; omega
      · show (if g = g then _ else _) = _
        rw [if_pos rfl]; exact List.getElem?_eq_none (by rw [hlen]; exact ho')
      · intro j b hb'
        by_cases hj : j = i
        · simp only [hj, if_true] at hb'; exact .inr ⟨i, by rw [hb']; exact hSg⟩
        · simp only [hj, if_false] at hb'; exact .inr ⟨j, hb'⟩
    · refine hgrown cap xs hxl hxT ?_
      have hr := Lib.run_append_grow_string (P := P) w t u tyy e inf z hu hus hi hiz ⟨g, 0, none⟩ l.length cap xs (by rw [his]; exact hxl) (fun j u hj => by
        have := hxc j u hj
        unfold Addr.add
        split
        · subst j; simp only [World.cell?, h3]; simpa using this
        · simp only [World.cell?, h3]; simpa using this) ⟨m.toArray⟩ (by rw [hsize]; omega) (by rw [hsize]; omega) (by rw [hsize]; exact growslice_fits (by omega) (by rw [hib]; exact hb))
      rw [h1, hxs]; rw [hsize, hcells] at hr; exact hr

theorem oc_appendStr {x y : Operand} {l m : List UInt8} {t u e : TypeId} {v : Value} {L' : Value → List Res} (i : Nat) (hx : Opd E x = some (TAnd (Is v) (TBytes l))) (hL : L[i]? = some (ownSl v 1 e)) (hy : Opd E y = some (Is (str m)))
    (hu : P.underlying t = some (.slice e)) (hus : P.underlying u = some .string) (hinf : ByteEl P e) (hb : l.length + m.length ≤ 140737488355328) (hL' : ∀ v', L.set i (ownSl v' 1 e) = L' v') :
    OpC P L E ⟨dst, .call { callee := .builtin .append, args := #[x, y], argTypes := #[t, u] }, ty, pos, after, gd⟩ (fun v' => TAnd (Is v') (TBytes (l ++ m))) L' := by
  have hLe : L' = fun v' => L.set i (ownSl v' 1 e) := by funext v'; exact (hL' v').symm
  subst hLe
  intro a w G S hs ho ht K Q k
  have hxx := ht x (by simp [Op.operands, Call.operands]) _ hx
  have hyv : a.eval y = str m := ht y (by simp [Op.operands, Call.operands]) _ hy
  have hxv : a.eval x = v := hxx.1
  obtain ⟨v', w', G', S', hr, h1, h2, h3, h4⟩ := run_append_str (P := P) (tyy := ty) hu hus hinf hs ho hL (by rw [← hxv]; exact hxx.2) hb
  have : (execOp a.eval (⟨dst, .call { callee := .builtin .append, args := #[x, y], argTypes := #[t, u] }, ty, pos, after, gd⟩ : Oper)).run P w = .ok (.value v') w' := by
    simp only [execOp, resolve]
    simp [invoke, builtin, hxv, hyv, hr]
  simp only [Oper.wp, this, Oper.upon_value]
  exact k v' w' G' S' h1 h2 h3 ⟨rfl, h4⟩
end
theorem b8_nat (c : UInt8) : b8 (c.toNat : Int) = c := by
  apply UInt8.toNat_inj.1
  have := b8_toNat (c.toNat : Int)
  have := c.toNat_lt
  omega
/-- nil, or the place's own address. -/
def selfP (g : Nat) (b : Bool) : Value := bif b then pAt g 0 else .pointer none
theorem Sub.selfT (g : Nat) : Sub (Is (pAt g 0)) (Is (selfP g true)) := fun _ _ h => h
theorem Sub.selfN (g : Nat) : Sub (Is (.pointer none)) (Is (selfP g false)) := fun _ _ h => h
/-- A contract at narrower arguments. -/
theorem ArgsT.sub {G : Imm} : ∀ {A B : List Ty} {vs : List Value}, TsSub A B → ArgsT G A vs → ArgsT G B vs
  | [], [], [], _, _ => trivial
  | T :: A, U :: B, v :: vs, h, k => ⟨h.1 _ _ k.1, ArgsT.sub h.2 k.2⟩
  | [], _ :: _, _, h, _ => h.elim
  | _ :: _, [], _, h, _ => h.elim
  | [], [], _ :: _, _, k => k.elim
  | _ :: _, _ :: _, [], _, k => k.elim
theorem CFn.sub {P : Program} {f : FuncId} {A B : List Ty} {T : Ty} (h : CFn P f B T) (s : TsSub A B) : CFn P f A T :=
  ⟨h.enter, fun vs w G S hs ho ha => h.calls vs w G S hs ho (ArgsT.sub s ha)⟩
theorem dropS {α : Type _} (i : Nat) (a : α) (l : List α) : List.drop (i + 1) (a :: l) = List.drop i l := rfl
theorem dropZ {α : Type _} (a : α) (l : List α) : List.drop 0 (a :: l) = a :: l := rfl
theorem dropN {α : Type _} (i : Nat) : List.drop i ([] : List α) = [] := by cases i <;> rfl
theorem dropN0 {α : Type _} : List.drop 0 ([] : List α) = [] := rfl
/-- Element by element. -/
def TssSub : List (List Ty) → List (List Ty) → Prop
  | [], [] => True
  | a :: A, b :: B => TsSub a b ∧ TssSub A B
  | _, _ => False
theorem TsSub.refl : ∀ A : List Ty, TsSub A A
  | [] => trivial
  | T :: A => ⟨Sub.refl T, TsSub.refl A⟩
theorem TssSub.refl : ∀ A : List (List Ty), TssSub A A
  | [] => trivial
  | a :: A => ⟨TsSub.refl a, TssSub.refl A⟩
theorem TssSub.append : ∀ {A B A' B' : List (List Ty)}, TssSub A A' → TssSub B B' → TssSub (A ++ B) (A' ++ B')
  | [], _, [], _, _, k => k
  | _ :: _, _, _ :: _, _, h, k => ⟨h.1, TssSub.append h.2 k⟩
  | [], _, _ :: _, _, h, _ => h.elim
  | _ :: _, _, [], _, h, _ => h.elim
theorem TssSub.one {a b : List Ty} (h : TsSub a b) : TssSub [a] [b] := ⟨h, trivial⟩
theorem TssSub.get : ∀ {A B : List (List Ty)}, TssSub A B → A.length = B.length ∧ ∀ (i : Nat) (b : List Ty), B[i]? = some b → ∃ a, A[i]? = some a ∧ TsSub a b
  | [], [], _ => ⟨rfl, fun i b h => by simp at h⟩
  | a :: A, b :: B, h => by
    obtain ⟨h1, h2⟩ := TssSub.get h.2
    refine ⟨by simp [h1], fun i b' hb => ?_⟩
    cases i with
    | zero => simp at hb; subst hb; exact ⟨a, rfl, h.1⟩
    | succ i => simp at hb; obtain ⟨a', h3, h4⟩ := h2 i b' hb; exact ⟨a', by simpa using h3, h4⟩
  | [], _ :: _, h => h.elim
  | _ :: _, [], h => h.elim
theorem Sub.trans {A B C : Ty} (h : Sub A B) (k : Sub B C) : Sub A C := fun G v x => k G v (h G v x)
theorem Sub.slE {sz : Nat} {A B : List (List Ty)} (h : TssSub A B) : Sub (TSl sz (fun ts : List Ty => ts) A) (TSl sz (fun ts : List Ty => ts) B) := by
  rintro G v ⟨a, cap, h1, h2, h3, h4, h5, h6⟩
  obtain ⟨hl, hg⟩ := TssSub.get h
  refine ⟨a, cap, by rw [h1, hl], by omega, h3, (fun e => by cases e), h5, fun ad e => ⟨fun hp => (h6 ad e).1 (by omega), fun i y hy => ?_⟩⟩
  obtain ⟨x, hx, hs⟩ := hg i y hy
  obtain ⟨k1, k2⟩ := (h6 ad e).2 i x hx
  obtain ⟨hl2, hg2⟩ := hs.get
  refine ⟨hl2.symm.trans k1, fun j U hU => ?_⟩
  obtain ⟨T, hT, hs2⟩ := hg2 j U hU
  obtain ⟨u, u1, u2, u3⟩ := k2 j T hT
  exact ⟨u, u1, hs2 _ _ u2, u3⟩
theorem op_stringX {P : Program} {L : List Res} {E : Env} {dst : Option Tmp} {ty : TypeId} {pos : String} {after : Array Edge} {gd : Option (Nat × Bool)} {t : Nat} {l : List UInt8} {st dt e : TypeId} (hx : E.get t = some (TSlX 1 cB l)) (hs : P.underlying st = some (.slice e)) (he : P.underlying e = some (.int .u8)) (hd : P.underlying dt = some .string) :
    OpP P L E ⟨dst, .convert st dt (.tmp t), ty, pos, after, gd⟩ (Is (str l)) :=
  OpP.unl (T0 := TBytes l) (Sub.slx rfl) hx (op_string (x := .tmp t) (by simp [Opd, Env.get]) hs he hd)
/-- A slice of one's own in a block of one's own; the zero block holds the empty one. -/
theorem RSub.zeroW (g : Nat) (e t : TypeId) : RSub (ownP g e [Is (.slice none 0 0)]) (packR fun v : Value => [ownP g e [TAnd (Is v) (TBytes [])], ownSl v 1 t]) := by
  intro S G w h
  refine ⟨.slice none 0 0, fun i b => i = 0 ∧ S b, fun b => ⟨fun hb => ⟨0, rfl, hb⟩, fun ⟨_, _, hb⟩ => hb⟩, fun i j b hi hj => hi.1.trans hj.1.symm, fun i b hi => by rw [hi.1]; simp, ?_⟩
  intro i r hr
  match i, hr with
  | 0, hr =>
    simp at hr; subst hr
    have : (fun (i : Nat) b => i = 0 ∧ S b) 0 = S := by funext b; simp
    rw [this]
    exact RSub.own (TsSub.cons (Sub.nilO rfl) TsSub.nil) _ _ _ h
  | 1, hr =>
    simp at hr; subst hr
    exact .inl ⟨rfl, fun b hb => by simp at hb⟩
theorem PickL.zeroW {L : List Res} {is : List Nat} {B : List Res} {g : Nat} {e t : TypeId} (i : Nat) (h : L[i]? = some (ownP g e [Is (.slice none 0 0)])) (k : PickL L is B) : PickL L (i :: is) ((packR fun v : Value => [ownP g e [TAnd (Is v) (TBytes [])], ownSl v 1 t]) :: B) := .cons i h (RSub.zeroW g e t) k
def shlU (m n : Int) : Int := IntKind.u64.wrap (m * 2 ^ n.toNat)
def orU (m n : Int) : Int := bitsOf .or .u64 m n
section
variable {P : Program} {L : List Res} {E : Env} {dst : Option Tmp} {ty : TypeId} {pos : String} {after : Array Edge} {gd : Option (Nat × Bool)}
theorem op_shr7u {x : Operand} {m : Int} {xt yt : TypeId} (hx : Opd E x = some (okI .u64 m)) : OpP P L E ⟨dst, .binOp .shr xt x (.const (.int .u64 7)) yt, ty, pos, after, gd⟩ (okI .u64 (m / 128)) :=
  op_shr (n := 7) hx rfl (by decide)
theorem op_shlu {x y : Operand} {m n : Int} {k' : IntKind} {xt yt : TypeId} (hx : Opd E x = some (okI .u64 m)) (hy : Opd E y = some (okI k' n)) (hn : 0 ≤ n ∧ n ≤ 64) : OpP P L E ⟨dst, .binOp .shl xt x y yt, ty, pos, after, gd⟩ (okI .u64 (shlU m n)) := op_shlw hx hy hn
theorem op_oru {x y : Operand} {m n : Int} {xt yt : TypeId} (hx : Opd E x = some (okI .u64 m)) (hy : Opd E y = some (okI .u64 n)) : OpP P L E ⟨dst, .binOp .or xt x y yt, ty, pos, after, gd⟩ (okI .u64 (orU m n)) := op_orb hx hy
theorem op_and127u {x : Operand} {m : Int} {xt yt : TypeId} (hx : Opd E x = some (okI .u64 m)) : OpP P L E ⟨dst, .binOp .and xt x (.const (.int .u64 127)) yt, ty, pos, after, gd⟩ (okI .u64 (m % 128)) := op_andM 7 hx rfl rfl rfl (InK.u64 (by omega))
end
end Go.Vk
set_option linter.unusedVariables false
namespace Go.Vk
/-! ### rows, laid flat -/
section
variable {α : Type}
theorem flat_get {sz : Nat} {f : α → List Ty} : ∀ {l : List α} {rest : List Ty} {i : Nat} {a : α} {j : Nat} {T : Ty}, (∀ a ∈ l, (f a).length = sz) → l[i]? = some a → (f a)[j]? = some T → (l.flatMap f ++ rest)[i * sz + j]? = some T
  | [], rest, i, a, j, T, _, hi, _ => by simp at hi
  | b :: l, rest, 0, a, j, T, hl, hi, hj => by
    simp at hi; subst hi
    rw [List.flatMap_cons, List.append_assoc, List.getElem?_append_left (by have := (List.getElem?_eq_some_iff.1 hj).1; omega), Nat.zero_mul, Nat.zero_add]
    exact hj
  | b :: l, rest, i + 1, a, j, T, hl, hi, hj => by
    have hb := hl b (by simp)
    rw [List.flatMap_cons, List.append_assoc, List.getElem?_append_right (by rw [hb, Nat.succ_mul]; omega), hb]
    have := flat_get (l := l) (rest := rest) (fun a ha => hl a (by simp [ha])) (by simpa using hi) hj
    rw [← this]
    congr 1
    rw [Nat.succ_mul]; omega
theorem flat_length {sz : Nat} {f : α → List Ty} : ∀ {l : List α}, (∀ a ∈ l, (f a).length = sz) → (l.flatMap f).length = l.length * sz
  | [], _ => by simp
  | b :: l, hl => by
    rw [List.flatMap_cons, List.length_append, hl b (by simp), flat_length (fun a ha => hl a (by simp [ha])), List.length_cons, Nat.succ_mul]; omega
/-- Some cells of one element are written. -/
theorem flat_seg {sz : Nat} {f : α → List Ty} : ∀ {l : List α} {rest : List Ty} {i : Nat} {a a' : α} {off : Nat} {us : List Ty}, (∀ a ∈ l, (f a).length = sz) → l[i]? = some a → off + us.length ≤ sz → (f a).take off ++ us ++ (f a).drop (off + us.length) = f a' →
    (l.flatMap f ++ rest).take (i * sz + off) ++ us ++ (l.flatMap f ++ rest).drop (i * sz + off + us.length) = (l.set i a').flatMap f ++ rest
  | [], rest, i, a, a', off, us, _, hi, _, _ => by simp at hi
  | b :: l, rest, 0, a, a', off, us, hl, hi, hj, he => by
    simp at hi; subst hi
    have hb := hl b (by simp)
    have e1 : (b :: l).flatMap f ++ rest = f b ++ (l.flatMap f ++ rest) := by rw [List.flatMap_cons, List.append_assoc]
    have e2 : ((b :: l).set 0 a').flatMap f ++ rest = f a' ++ (l.flatMap f ++ rest) := by rw [List.set_cons_zero, List.flatMap_cons, List.append_assoc]
    rw [Nat.zero_mul, Nat.zero_add, e1, e2, ← he, List.take_append_of_le_length (by omega), List.drop_append_of_le_length (by omega)]
    simp only [List.append_assoc]
  | b :: l, rest, i + 1, a, a', off, us, hl, hi, hj, he => by
    have hb := hl b (by simp)
    have ih := flat_seg (l := l) (rest := rest) (fun a ha => hl a (by simp [ha])) (by simpa using hi) hj he
    have e2 : (b :: l).flatMap f ++ rest = f b ++ (l.flatMap f ++ rest) := by rw [List.flatMap_cons, List.append_assoc]
    have e3 : ((b :: l).set (i + 1) a').flatMap f ++ rest = f b ++ ((l.set i a').flatMap f ++ rest) := by rw [List.set_cons_succ, List.flatMap_cons, List.append_assoc]
    rw [e2, e3, ← ih]
    have e1 : (i + 1) * sz + off = (f b).length + (i * sz + off) := by rw [hb, Nat.succ_mul]; omega
    rw [e1, Nat.add_assoc (f b).length, List.take_length_add_append, List.drop_length_add_append]
    simp only [List.append_assoc]
theorem flat_row {sz : Nat} {f : α → List Ty} : ∀ {l : List α} {rest : List Ty} {i : Nat} {a : α}, (∀ a ∈ l, (f a).length = sz) → l[i]? = some a → ((l.flatMap f ++ rest).drop (i * sz)).take sz = f a
  | [], rest, i, a, _, hi => by simp at hi
  | b :: l, rest, 0, a, hl, hi => by
    simp at hi; subst hi
    have hb := hl b (by simp)
    rw [Nat.zero_mul, List.drop_zero, List.flatMap_cons, List.append_assoc, List.take_append_of_le_length (by omega), List.take_of_length_le (by omega)]
  | b :: l, rest, i + 1, a, hl, hi => by
    have hb := hl b (by simp)
    have ih := flat_row (l := l) (rest := rest) (fun a ha => hl a (by simp [ha])) (by simpa using hi)
    rw [List.flatMap_cons, List.append_assoc, show (i + 1) * sz = (f b).length + i * sz by rw [hb, Nat.succ_mul]; omega, ← List.drop_drop, List.drop_left]
    exact ih
end
/-- Elements of one's own in the block g, which has room for c: what they are may be turned. -/
def ownA {α : Type} (g c : Nat) (e : TypeId) (sz : Nat) (f : α → List Ty) (l : List α) : Res where
  p S G w := (∀ a ∈ l, (f a).length = sz) ∧ l.length ≤ c ∧ c ≤ maxLen ∧ ∃ rest, (l.flatMap f ++ rest).length = c * sz ∧ (ownP g e (l.flatMap f ++ rest)).p S G w
  loc := fun ⟨h1, h2, h3, rest, h5, h4⟩ hle hb => ⟨h1, h2, h3, rest, h5, (ownP g e (l.flatMap f ++ rest)).loc h4 hle hb⟩
/-- A slice at the head of a block of one's own. -/
@[irreducible] def slAt (g n c : Nat) : Value := .slice (some ⟨g, 0, none⟩) n c
def sblk : Value → Nat
  | .slice (some a) _ _ => a.block
  | _ => 0
def scap : Value → Nat
  | .slice _ _ c => c
  | _ => 0
/-- The address of a cell of the i-th element. -/
@[irreducible] def pEl (g sz i off : Nat) : Value := pAt g (i * sz + off)
theorem slAt_def (g n c : Nat) : slAt g n c = .slice (some ⟨g, 0, none⟩) n c := by unfold slAt; rfl
theorem pEl_def (g sz i off : Nat) : pEl g sz i off = pAt g (i * sz + off) := by unfold pEl; rfl
theorem Owns.put {S : Nat → Nat → Prop} {L : List Res} {G : Imm} {w : World} {k : Nat} {R R' : Res} (h : Owns S L G w) (hL : L[k]? = some R) (hr : R'.p (S k) G w) : Owns S (L.set k R') G w := by
  have hk : k < L.length := (List.getElem?_eq_some_iff.1 hL).1
  refine ⟨h.bound, h.disj, fun i b hb => by simpa using h.inL i b hb, fun i r hi => ?_⟩
  rw [List.getElem?_set] at hi
  by_cases hik : k = i
  · subst hik; rw [if_pos rfl, if_pos hk] at hi; cases hi; exact hr
  · rw [if_neg hik] at hi; exact h.res i r hi
section
variable {P : Program} {L : List Res} {E : Env} {dst : Option Tmp} {ty : TypeId} {pos : String} {after : Array Edge} {gd : Option (Nat × Bool)} {α : Type} {g c sz : Nat} {e : TypeId} {f : α → List Ty} {l : List α}
theorem OpP.openA {o : Oper} {T : Ty} {k : Nat} (hL : L[k]? = some (ownA g c e sz f l)) (h : (∀ a ∈ l, (f a).length = sz) → ∀ rest, OpP P (L.set k (ownP g e (l.flatMap f ++ rest))) E o T) : OpP P L E o T := fun a w G S hs ho ht K Q kk => by
  obtain ⟨h1, _, _, rest, _, h4⟩ := ho.res k _ hL
  exact h h1 rest a w G S hs (ho.put hL h4) ht K Q kk
theorem set_at {L : List Res} {k : Nat} {R R' : Res} (h : L[k]? = some R) : (L.set k R')[k]? = some R' := by
  rw [List.getElem?_set, if_pos rfl, if_pos (List.getElem?_eq_some_iff.1 h).1]
/-! ### addresses -/
theorem op_lenA {x : Operand} {n : Nat} {t e' : TypeId} (hx : Opd E x = some (Is (slAt g n c))) (hu : P.underlying t = some (.slice e')) : OpP P L E ⟨dst, .call { callee := .builtin .len, args := #[x], argTypes := #[t] }, ty, pos, after, gd⟩ (okI .i64 (n : Int)) :=
  OpP.same fun a w G S _ _ ho => by
    have e1 : a.eval x = .slice (some ⟨g, 0, none⟩) n c := (ho x (by simp [Op.operands, Call.operands]) _ hx).trans (slAt_def g n c)
    refine ⟨.int .i64 n, ?_, rfl⟩
    simp only [execOp, resolve]
    simp [invoke, builtin, e1, Builtin.len_, Builtin.lenOf, run_underlying hu, goInt]
theorem op_indexA {x i : Operand} {n m : Nat} {k : IntKind} {t : TypeId} (hx : Opd E x = some (Is (slAt g n c))) (hi : Opd E i = some (okI k (m : Int))) (hu : P.underlying t = some (.slice e)) (hsz : P.cellsOf e = sz) (hinf : (P.info? e).isSome = true) (h : m < n) : OpP P L E ⟨dst, .indexAddr t x i, ty, pos, after, gd⟩ (Is (pEl g sz m 0)) :=
  OpP.same fun a w G S _ _ ho => by
    have e1 : a.eval x = .slice (some ⟨g, 0, none⟩) n c := (ho x (by simp [Op.operands]) _ hx).trans (slAt_def g n c)
    have e2 : a.eval i = .int k m := ho i (by simp [Op.operands]) _ hi
    obtain ⟨inf, hinf⟩ := Option.isSome_iff_exists.1 hinf
    have hs : inf.size = sz := by simpa [Program.cellsOf, hinf] using hsz
    refine ⟨pEl g sz m 0, ?_, rfl⟩
    rw [pEl_def]
    have e3 : (⟨g, 0, none⟩ : Addr).add (m * sz) = ⟨g, m * sz, none⟩ := by
      unfold Addr.add; split <;> simp_all
    simp only [execOp, e1, e2]
    simp [Instr.indexAt, asIntOf, run_underlying hu, h, sizeOf, typeInfo, hinf, hs, e3]
theorem op_nilE {x : Operand} {i off : Nat} (hx : Opd E x = some (Is (pEl g sz i off))) : OpP P L E ⟨dst, .nilCheck x, ty, pos, after, gd⟩ (Is (pEl g sz i off)) := by
  rw [pEl_def] at hx ⊢; exact op_nilP hx
theorem op_faddrE {x : Operand} {i off foff off' : Nat} {s : TypeId} {j : Nat} (hx : Opd E x = some (Is (pEl g sz i off))) (hf : fieldOff P s j = some foff) (ho : off + foff = off') : OpP P L E ⟨dst, .fieldAddr s x j, ty, pos, after, gd⟩ (Is (pEl g sz i off')) := by
  rw [pEl_def] at hx ⊢; exact op_faddrP hx hf (by omega)
/-! ### loads and stores -/
theorem op_loadE {x : Operand} {i off : Nat} {a : α} {T : Ty} {t : TypeId} (k : Nat) (hx : Opd E x = some (Is (pEl g sz i off))) (hL : L[k]? = some (ownA g c e sz f l)) (hag : aggB P t = some false) (ha : l[i]? = some a) (hT : (f a)[off]? = some T) : OpP P L E ⟨dst, .load t x, ty, pos, after, gd⟩ T := by
  rw [pEl_def] at hx
  exact .openA hL fun h1 rest => op_loadO k hx (set_at hL) (flat_get h1 ha hT) hag
theorem op_loadEA {x : Operand} {i : Nat} {a : α} {t : TypeId} (k : Nat) (hx : Opd E x = some (Is (pEl g sz i 0))) (hL : L[k]? = some (ownA g c e sz f l)) (hag : aggB P t = some true) (hsz : (P.info? t).map (·.size) = some sz) (ha : l[i]? = some a) : OpP P L E ⟨dst, .load t x, ty, pos, after, gd⟩ (TAgg (f a)) := by
  rw [pEl_def, Nat.add_zero] at hx
  exact .openA hL fun h1 rest => op_loadAO k hx (set_at hL) hag hsz (flat_row h1 ha) (h1 a (List.mem_of_getElem? ha))
theorem getD_get [Inhabited α] {i : Nat} (h : i < l.length) : l[i]? = some (l.getD i default) := by
  rw [List.getD_eq_getElem?_getD, List.getElem?_eq_getElem h]; rfl
/-- What a store of a T at a place of an element makes of it. -/
structure SetF {α β : Type} (f : α → List Ty) (off : Nat) (F : β → Ty) (upd : α → β → α) : Prop where
  h : ∀ a b, f (upd a b) = (f a).set off (F b)
theorem OpC.openA {o : Oper} {k : Nat} {l' : List α} (hL : L[k]? = some (ownA g c e sz f l)) (hlen : l'.length = l.length) (hf' : (∀ a ∈ l, (f a).length = sz) → ∀ a ∈ l', (f a).length = sz) {L' : List Res} (hL' : L.set k (ownA g c e sz f l') = L')
    (h : (∀ a ∈ l, (f a).length = sz) → ∀ rest, OpC P (L.set k (ownP g e (l.flatMap f ++ rest))) E o (fun v => Is v) (fun _ => (L.set k (ownP g e (l.flatMap f ++ rest))).set k (ownP g e (l'.flatMap f ++ rest)))) : OpC P L E o (fun v => Is v) (fun _ => L') := by
  subst hL'
  intro a w G S hs ho ht K Q kk
  obtain ⟨h1, h2, h3, rest, h5, h4⟩ := ho.res k _ hL
  refine h h1 rest a w G S hs (ho.put hL h4) ht K Q fun v w' G' S' hext ho' hs' hv => ?_
  refine kk v w' G' S' hext ?_ hs' hv
  have hk : k < L.length := (List.getElem?_eq_some_iff.1 hL).1
  have hget : ((L.set k (ownP g e (l.flatMap f ++ rest))).set k (ownP g e (l'.flatMap f ++ rest)))[k]? = some (ownP g e (l'.flatMap f ++ rest)) := set_at (set_at hL)
  have hres := ho'.res k _ hget
  have := ho'.put (R' := ownA g c e sz f l') hget ⟨hf' h1, by omega, h3, rest, by rw [List.length_append, flat_length (hf' h1), hlen, ← flat_length h1, ← List.length_append]; exact h5, hres⟩
  simpa using this
theorem oc_storeE {β : Type} {x y : Operand} {i off : Nat} [Inhabited α] {F : β → Ty} {upd : α → β → α} {b : β} {t : TypeId} {L' : List Res} (k : Nat) (hset : SetF f off F upd) (hx : Opd E x = some (Is (pEl g sz i off))) (hL : L[k]? = some (ownA g c e sz f l)) (hy : Opd E y = some (F b)) (h1c : One (F b)) (hsz : (P.info? t).map (·.size) = some 1) (hi : i < l.length) (hlt : Nat.blt off sz = true) (hL' : L.set k (ownA g c e sz f (l.set i (upd (l.getD i default) b))) = L') :
    OpC P L E ⟨dst, .store t x y, ty, pos, after, gd⟩ (fun v => Is v) (fun _ => L') := by
  have hlt' : off < sz := Nat.le_of_ble_eq_true hlt
  rw [pEl_def] at hx
  have hgi := getD_get hi
  have hmem : l.getD i default ∈ l := List.mem_of_getElem? hgi
  refine .openA (l' := l.set i (upd (l.getD i default) b)) hL (by simp) (fun h1 a ha => ?_) hL' fun h1 rest => ?_
  · rcases List.mem_or_eq_of_mem_set ha with ha | rfl
    · exact h1 a ha
    · rw [hset.h]; simpa using h1 _ hmem
  · have hfl : (f (l.getD i default)).length = sz := h1 _ hmem
    refine op_storeO k hx hy h1c (set_at hL) hsz ?_ ?_ rfl
    · have : i * sz + off < (l.flatMap f ++ rest).length := by
        rw [List.length_append, flat_length h1]
        have : (i + 1) * sz ≤ l.length * sz := Nat.mul_le_mul_right _ hi
        rw [Nat.succ_mul] at this
        omega
      exact Nat.ble_eq_true_of_le this
    · have hs := flat_seg (rest := rest) (a' := upd (l.getD i default) b) (off := off) (us := [F b]) h1 hgi (by simp; omega) (by
        rw [hset.h, List.set_eq_take_append_cons_drop, if_pos (by omega)]; simp)
      rw [← hs, List.set_eq_take_append_cons_drop, if_pos (by
        rw [List.length_append, flat_length h1]
        have : (i + 1) * sz ≤ l.length * sz := Nat.mul_le_mul_right _ hi
        rw [Nat.succ_mul] at this
        omega)]
      simp
theorem oc_storeEA {x y : Operand} {i : Nat} {a' : α} {t : TypeId} {L' : List Res} (k : Nat) (hx : Opd E x = some (Is (pEl g sz i 0))) (hL : L[k]? = some (ownA g c e sz f l)) (hy : Opd E y = some (TAgg (f a'))) (hsz : (P.info? t).map (·.size) = some sz) (hn : Nat.beq (f a').length sz = true) (hi : i < l.length) (hL' : L.set k (ownA g c e sz f (l.set i a')) = L') :
    OpC P L E ⟨dst, .store t x y, ty, pos, after, gd⟩ (fun v => Is v) (fun _ => L') := by
  have hn' := Nat.eq_of_beq_eq_true hn
  rw [pEl_def, Nat.add_zero] at hx
  have hgi : l[i]? = some l[i] := List.getElem?_eq_getElem hi
  refine .openA (l' := l.set i a') hL (by simp) (fun h1 a ha => ?_) hL' fun h1 rest => ?_
  · rcases List.mem_or_eq_of_mem_set ha with ha | rfl
    · exact h1 a ha
    · exact hn'
  · have hfl : (f l[i]).length = sz := h1 _ (List.mem_of_getElem? hgi)
    refine op_storeAO k hx hy (set_at hL) hsz hn' ?_ ?_ rfl
    · have : i * sz + sz ≤ (l.flatMap f ++ rest).length := by
        rw [List.length_append, flat_length h1]
        have : (i + 1) * sz ≤ l.length * sz := Nat.mul_le_mul_right _ hi
        rw [Nat.succ_mul] at this
        omega
      exact Nat.ble_eq_true_of_le this
    · have hs := flat_seg (rest := rest) (a' := a') (off := 0) (us := f a') h1 hgi (by omega) (by rw [List.drop_of_length_le (by omega)]; simp)
      rw [← hs, hn', Nat.add_zero]
end
/-! ### what is one's own is given away: it stays as it is -/
theorem Inv.give {F : FCtx} {L : List Res} {G : Imm} {w : World} {S : Nat → Nat → Prop} {α : Type} {g c sz k : Nat} {e : TypeId} {f : α → List Ty} {l : List α} (h : Inv F L G w S) (hL : L[k]? = some (ownA g c e sz f l)) :
    ∃ G', Imm.le G G' ∧ Inv F (L.set k empR) G' w (fun i b => i ≠ k ∧ S i b) ∧ (TSl sz f l).p G' (slAt g l.length c) := by
  obtain ⟨h1, h2, h3, rest, _, hS, ⟨cs, hc, hcs, hv⟩, hfree⟩ := h.owns.res k _ hL
  have hgS : S k g := (hS g).2 rfl
  have hle : Imm.le G (fun b o => if b = g then cs[o]? else G b o) := fun b o v hb => by
    by_cases hbg : b = g
    · subst hbg; rw [hfree] at hb; cases hb
    · show (if b = g then cs[o]? else G b o) = some v
      rw [if_neg hbg]; exact hb
  have hoth : ∀ b, b ≠ g → ∀ o, (fun b o => if b = g then cs[o]? else G b o : Imm) b o = G b o := fun b hb o => by
    show (if b = g then cs[o]? else G b o) = G b o
    rw [if_neg hb]
  have hsat : Sat (fun b o => if b = g then cs[o]? else G b o) w := fun b o v hb => by
    by_cases hbg : b = g
    · subst hbg
      have hb' : cs[o]? = some v := by
        have : (if b = b then cs[o]? else G b o) = some v := hb
        rwa [if_pos rfl] at this
      simp [World.cell?, hc, hb']
    · have hb' : G b o = some v := by
        have : (if b = g then cs[o]? else G b o) = some v := hb
        rwa [if_neg hbg] at this
      exact h.ext.sat b o v hb'
  have hk : k < L.length := (List.getElem?_eq_some_iff.1 hL).1
  refine ⟨_, hle, ⟨⟨hsat, h.ext.le.trans hle, h.ext.os, h.ext.tape, h.ext.output, h.ext.size, fun b hb hx => ?_⟩, ?_, fun i b hb => h.mine i b hb.2⟩, ?_⟩
  · obtain ⟨e1, e2⟩ := h.ext.blk b hb hx
    refine ⟨e1, fun o => (hoth b (fun hbg => ?_) o).trans (e2 o)⟩
    subst hbg
    rcases h.mine k b hgS with hX | hX
    · exact hx hX
    · omega
  · refine ⟨fun i b hb => h.owns.bound i b hb.2, fun i j b hi hj => h.owns.disj i j b hi.2 hj.2, fun i b hb => by simpa using h.owns.inL i b hb.2, fun i r hr => ?_⟩
    rw [List.getElem?_set] at hr
    by_cases hik : k = i
    · subst hik
      rw [if_pos rfl, if_pos hk] at hr
      cases hr
      exact trivial
    · rw [if_neg hik] at hr
      have := h.owns.res i r hr
      have heq : (fun b => i ≠ k ∧ S i b) = S i := by
        funext b; exact propext ⟨fun x => x.2, fun x => ⟨fun e => hik e.symm, x⟩⟩
      rw [heq]
      refine r.loc this hle fun b hb => ⟨rfl, hoth b fun hbg => ?_⟩
      subst hbg
      exact hik (h.owns.disj k i b hgS hb)
  · rw [slAt_def]
    refine ⟨some ⟨g, 0, none⟩, c, rfl, h2, h3, (fun x => by cases x), (fun x => by cases x), fun ad had => ?_⟩
    cases had
    refine ⟨fun _ => rfl, fun i y hy => ⟨h1 y (List.mem_of_getElem? hy), fun j T hT => ?_⟩⟩
    obtain ⟨u, hu, hTu, h1c⟩ := hv (i * sz + j) T (flat_get h1 hy hT)
    refine ⟨u, ?_, T.mono hle hTu, h1c⟩
    show (if g = g then cs[0 + i * sz + j]? else G g _) = some u
    rw [if_pos rfl, Nat.zero_add]; exact hu
section
variable {F : FCtx} {E : Env} {L : List Res} {Q : Exit → Act → World → Prop} {code : Code} {α : Type} {g c sz n : Nat} {e : TypeId} {f : α → List Ty} {l : List α}
theorem HT.give {t : Nat} (k : Nat) (hE : E.get t = some (Is (slAt g n c))) (hL : L[k]? = some (ownA g c e sz f l)) (hn : n = l.length) (h : HT F ((t, TSl sz f l) :: E) (L.set k empR) code Q) : HT F E L code Q := fun a w G S hi ht => by
  obtain ⟨G', hle, hi', hT⟩ := hi.give hL
  refine h a w G' _ hi' ⟨ht.size, ht.defers, fun t' T' e' => ?_⟩
  have hm := ht.mono hle
  simp only [Env.get] at e'
  cases hb : Nat.beq t t' with
  | false => rw [hb] at e'; exact hm.get t' T' e'
  | true =>
    rw [hb] at e'
    cases e'
    have := Nat.eq_of_beq_eq_true hb
    subst this
    have hv : a.tmps.getD t undef = slAt g n c := ht.get t _ hE
    rw [hv, hn]; exact hT
/-- The same, of a slice that lies in a variable of one's own. -/
theorem HT.giveP {g2 j : Nat} {e2 : TypeId} {ts : List Ty} (k k2 : Nat) (hL : L[k]? = some (ownA g c e sz f l)) (hL2 : L[k2]? = some (ownP g2 e2 ts)) (hj : ts[j]? = some (Is (slAt g n c))) (hn : n = l.length) (hne : Nat.beq k k2 = false) (h : HT F E ((L.set k empR).set k2 (ownP g2 e2 (ts.set j (TSl sz f l)))) code Q) : HT F E L code Q := fun a w G S hi ht => by
  obtain ⟨G', hle, hi', hT⟩ := hi.give hL
  have hne' : k ≠ k2 := fun x => by rw [x, Nat.beq_refl] at hne; cases hne
  have hL2' : (L.set k empR)[k2]? = some (ownP g2 e2 ts) := by rw [List.getElem?_set, if_neg hne']; exact hL2
  obtain ⟨q1, ⟨cs, q2, q3, q4⟩, q5⟩ := hi'.owns.res k2 _ hL2'
  refine h a w G' _ ⟨hi'.ext, hi'.owns.put hL2' ⟨q1, ⟨cs, q2, by simpa using q3, fun i T hT' => ?_⟩, q5⟩, hi'.mine⟩ (ht.mono hle)
  rw [List.getElem?_set] at hT'
  by_cases hij : j = i
  · subst hij
    have hjl := (List.getElem?_eq_some_iff.1 hj).1
    rw [if_pos rfl, if_pos hjl] at hT'
    cases hT'
    obtain ⟨u, a1, a2, a3⟩ := q4 j _ hj
    refine ⟨u, a1, ?_, a3⟩
    have hu : u = slAt g n c := a2
    rw [hu, hn]; exact hT
  · rw [if_neg hij] at hT'
    exact q4 i T hT'
end
/-! ### new rows -/
section
variable {P : Program} {L : List Res} {E : Env} {dst : Option Tmp} {ty : TypeId} {pos : String} {after : Array Edge} {gd : Option (Nat × Bool)} {α : Type} {sz by_ : Nat} {f : α → List Ty} {m : List α} {t e : TypeId} {z : Value}
/-- append onto what has no room, of some elements: a row of one's own. -/
theorem oc_appendNew {β : Type} {f0 : β → List Ty} {x y : Operand} {U : Ty} {L' : Value → List Res} (hx : Opd E x = some (TSlX sz f0 [])) (hy : Opd E y = some U) (hs : Sub U (TSl sz f m))
    (hu : P.underlying t = some (.slice e)) (hinf : (P.info? e).map (fun i => (i.zero, i.size, i.bytes)) = some (some z, sz, by_)) (hz1 : z.cells.toList.all Value.oneCell' = true) (hzc : z.cells.size = sz) (hb1 : Nat.ble by_ 1024 = true) (hl : 0 < m.length ∧ m.length ≤ 137438953472) (hL' : ∀ v, L ++ [ownA (sblk v) (scap v) e sz f m] = L' v) :
    OpC P L E ⟨dst, .call { callee := .builtin .append, args := #[x, y], argTypes := #[t, t] }, ty, pos, after, gd⟩ (fun v => Is (slAt (sblk v) m.length (scap v))) L' := by
  have hLe : L' = fun v => L ++ [ownA (sblk v) (scap v) e sz f m] := by funext v; exact (hL' v).symm
  subst hLe
  obtain ⟨hb, hm⟩ := upto_bytes hb1 hl.2
  intro a w G S hsat ho ht K Q kk
  have hxx := ht x (by simp [Op.operands, Call.operands]) _ hx
  have hyy := hs _ _ (ht y (by simp [Op.operands, Call.operands]) _ hy)
  obtain ⟨inf, hi, hiz, his, hib⟩ := info_parts hinf
  obtain ⟨av, capv, ev, hlcv, hcmv, hxc, hnilv, hadv⟩ := hxx
  have hcap : capv = 0 := hxc rfl
  subst hcap
  obtain ⟨ax, capx, ex, hlcx, hcmx, -, hnilx, hadx⟩ := hyy
  cases ax with
  | none => have := hnilx rfl; omega
  | some adx =>
    obtain ⟨hspx, helx⟩ := hadx adx rfl
    have hfl : ∀ y ∈ m, (f y).length = sz := fun y hy => by
      obtain ⟨k, hk, e⟩ := List.getElem_of_mem hy
      exact (helx k y (by rw [List.getElem?_eq_getElem hk, e])).1
    obtain ⟨news, hnl, hnG, hnT⟩ := sl_values (b := adx.block) (o := adx.off) (f := f) (sz := sz) (l := m) (G := G) helx
    have hnews : ∀ (j : Nat) (u : Value), news[j]? = some u → w.cell? (adx.add j) = some u := by
      intro j u hj
      have hcell := hsat _ _ _ (hnG j u hj).1
      have hspx := hspx hl.1
      obtain ⟨b, o, sp⟩ := adx
      simp only at hspx; subst hspx
      unfold Addr.add
      split
      · subst j; simpa using hcell
      · simpa using hcell
    have hsmall : (m.length : Int) ≤ 9223372036854775807 := by simp only [maxLen] at hm; omega
    have hfin : ∀ old, (Builtin.append_ #[t, t] ty #[a.eval x, a.eval y]).run P w = .ok (.slice (some ⟨w.heap.size, 0, none⟩) m.length (grownCap w m.length old e)) (w.drew.alloc (.cells (news.toArray ++ Builtin.zeroCells z.cells (grownCap w m.length old e - m.length)) e)) →
        Oper.wp P (⟨dst, .call { callee := .builtin .append, args := #[x, y], argTypes := #[t, t] }, ty, pos, after, gd⟩ : Oper) a w K Q := by
      intro old hrun
      have hr : (execOp a.eval (⟨dst, .call { callee := .builtin .append, args := #[x, y], argTypes := #[t, t] }, ty, pos, after, gd⟩ : Oper)).run P w = .ok (.value (.slice (some ⟨w.heap.size, 0, none⟩) m.length (grownCap w m.length old e))) (w.drew.alloc (.cells (news.toArray ++ Builtin.zeroCells z.cells (grownCap w m.length old e - m.length)) e)) := by
        simp only [execOp, resolve]
        simp [invoke, builtin, hrun]
      simp only [Oper.wp, hr, Oper.upon_value]
      have hnew : (w.drew.alloc (.cells (news.toArray ++ Builtin.zeroCells z.cells (grownCap w m.length old e - m.length)) e)).heap[w.heap.size]? = some (.cells (news.toArray ++ Builtin.zeroCells z.cells (grownCap w m.length old e - m.length)) e (0, 0)) := heap_new w _
      have hext0 := Ext.new hsat [] (.cells (news.toArray ++ Builtin.zeroCells z.cells (grownCap w m.length old e - m.length)) e) (fun j v hj => by simp at hj) (w.drew.alloc (.cells (news.toArray ++ Builtin.zeroCells z.cells (grownCap w m.length old e - m.length)) e)) rfl rfl rfl rfl
      have hG : Imm.add G w.heap.size [] = G := by
        funext b o
        unfold Imm.add
        by_cases hbg : b = w.heap.size
        · subst hbg
          rw [if_pos rfl]
          cases hgo : G w.heap.size o with
          | none => simp
          | some v => exact absurd (hsat.lt hgo) (by omega)
        · rw [if_neg hbg]
      rw [hG] at hext0
      have hfree : ∀ o, G w.heap.size o = none := fun o => by
        cases hgo : G w.heap.size o with
        | none => rfl
        | some v => exact absurd (hsat.lt hgo) (by omega)
      have hres : (ownA w.heap.size (grownCap w m.length old e) e sz f m).p (fun b => b = w.heap.size) G (w.drew.alloc (.cells (news.toArray ++ Builtin.zeroCells z.cells (grownCap w m.length old e - m.length)) e)) := by
        refine ⟨hfl, grownCap_ge w m.length old e, grownCap_le_maxLen w m.length old e hm, (Builtin.zeroCells z.cells (grownCap w m.length old e - m.length)).toList.map Is, by rw [List.length_append, flat_length hfl, List.length_map, show (Builtin.zeroCells z.cells (grownCap w m.length old e - m.length)).toList.length = (grownCap w m.length old e - m.length) * sz from by rw [Array.length_toList, size_zeroCells, hzc], ← Nat.add_mul, Nat.add_sub_cancel' (grownCap_ge w m.length old e)], fun b => Iff.rfl, ⟨_, hnew, ?_, ?_⟩, hfree⟩
        · simp [hnl, flat_length hfl]
        · intro j T hT
          by_cases hj : j < m.length * sz
          · rw [List.getElem?_append_left (by rw [flat_length hfl]; exact hj)] at hT
            have hsz0 : 0 < sz := Nat.pos_of_ne_zero fun h0 => by rw [h0] at hj; simp at hj
            have hdj : j / sz < m.length := (Nat.div_lt_iff_lt_mul hsz0).2 hj
            have hej : j = j / sz * sz + j % sz := by rw [Nat.mul_comm]; exact (Nat.div_add_mod j sz).symm
            have hrow := List.getElem?_eq_getElem hdj
            have hmod : j % sz < (f m[j / sz]).length := by rw [hfl _ (List.getElem_mem hdj)]; exact Nat.mod_lt _ hsz0
            have hfg := flat_get (rest := []) hfl hrow (List.getElem?_eq_getElem hmod)
            rw [← hej, List.append_nil] at hfg
            rw [hfg] at hT
            cases hT
            obtain ⟨u, g1, g2, g3⟩ := hnT _ _ hrow (j % sz) _ (List.getElem?_eq_getElem hmod)
            rw [← hej] at g1
            refine ⟨u, ?_, g2, g3⟩
            rw [Array.getElem?_append_left (by rw [List.size_toArray, hnl]; exact hj)]
            simpa using g1
          · rw [List.getElem?_append_right (by rw [flat_length hfl]; omega), flat_length hfl, List.getElem?_map] at hT
            obtain ⟨u, hu, rfl⟩ := Option.map_eq_some_iff.1 hT
            have hu' : (Builtin.zeroCells z.cells (grownCap w m.length old e - m.length))[j - m.length * sz]? = some u := by simpa using hu
            refine ⟨u, ?_, rfl, ?_⟩
            · rw [Array.getElem?_append_right (by rw [List.size_toArray, hnl]; omega), List.size_toArray, hnl]; exact hu'
            · rw [List.all_eq_true] at hz1
              obtain ⟨hlt, rfl⟩ := Array.getElem?_eq_some_iff.1 hu'
              have hpos : 0 < z.cells.size := by
                rw [size_zeroCells] at hlt
                exact Nat.pos_of_ne_zero fun h0 => by rw [h0] at hlt; simp at hlt
              refine hz1 _ ?_
              simp only [Builtin.zeroCells, Array.getElem_map, Array.getElem_range]
              have hm' := Nat.mod_lt (j - m.length * sz) hpos
              rw [getElem!_pos z.cells _ hm']
              exact Array.mem_toList_iff.2 (Array.getElem_mem hm')
      refine kk (.slice (some ⟨w.heap.size, 0, none⟩) m.length (grownCap w m.length old e)) _ G (fun i b => if i = L.length then b = w.heap.size else S i b) ⟨hext0.sat, hext0.le, hext0.os, hext0.tape, hext0.output, hext0.size, fun b hb' _ => hext0.blk b hb' (fun z => z)⟩ (ho.snoc hext0 _ (fun b => b = w.heap.size) (fun b hb' => by subst hb'; exact ⟨Nat.le_refl _, by simp⟩) hres) (fun i b hb' => ?_) ?_
      · by_cases hi : i = L.length
        · simp only [hi, if_true] at hb'; exact .inl (by omega)
        · simp only [hi, if_false] at hb'; exact .inr ⟨i, hb'⟩
      · show _ = slAt w.heap.size m.length (grownCap w m.length old e)
        rw [slAt_def]
    cases av with
    | none =>
      refine hfin 0 ?_
      have hr := run_append_nil (P := P) w t ty e inf z hu hi hiz adx m.length capx news (by rw [his]; exact hnl) hnews (by omega) hsmall (by rw [hib]; omega)
      rw [ev, ex, List.length_nil, hr]
    | some adv =>
      refine hfin 0 ?_
      have hr := run_append_grow (P := P) w t ty e inf z hu hi hiz adv 0 0 [] (by simp) (fun j u hj => by simp at hj) adx m.length capx news (by rw [his]; exact hnl) hnews (by omega) (by omega) (growslice_fits (by omega) (by rw [hib, Nat.zero_add]; exact hb))
      rw [ev, ex, List.length_nil, hr]
      simp
end
/-! ### pointers to what stays, compared with nil -/
section
variable {P : Program} {L : List Res} {E : Env} {dst : Option Tmp} {ty : TypeId} {pos : String} {after : Array Edge} {gd : Option (Nat × Bool)}
theorem run_eqCnil {g o : Nat} {xt t : TypeId} (w : World) (hu : P.underlying xt = some (.pointer t)) : (Op.equal xt (pAt g o) (.pointer none)).run P w = .ok false w := by
  have h : ∀ d, (Op.equalIn (d + 1) xt (pAt g o) (.pointer none)).run P w = .ok false w := fun d => by simp [Op.equalIn, run_underlying hu]
  exact h 9999
theorem op_eqCnil {x : Operand} {ts : List Ty} {xt yt t : TypeId} (hx : Opd E x = some (TPc ts)) (hu : P.underlying xt = some (.pointer t)) : OpP P L E ⟨dst, .binOp .eql xt x (.const (.pointer none)) yt, ty, pos, after, gd⟩ (Is (.bool false)) :=
  OpP.same fun a w G S _ _ ho => by
    obtain ⟨g, o, h1, _⟩ := ho x (by simp [Op.operands]) _ hx
    refine ⟨.bool false, ?_, rfl⟩
    have h0 : a.eval (.const (.pointer none)) = .pointer none := rfl
    simp only [execOp, h1, h0]
    simp [eqGuard, binOp, run_eqCnil w hu]
theorem op_neCnil {x : Operand} {ts : List Ty} {xt yt t : TypeId} (hx : Opd E x = some (TPc ts)) (hu : P.underlying xt = some (.pointer t)) : OpP P L E ⟨dst, .binOp .neq xt x (.const (.pointer none)) yt, ty, pos, after, gd⟩ (Is (.bool true)) :=
  OpP.same fun a w G S _ _ ho => by
    obtain ⟨g, o, h1, _⟩ := ho x (by simp [Op.operands]) _ hx
    refine ⟨.bool true, ?_, rfl⟩
    have h0 : a.eval (.const (.pointer none)) = .pointer none := rfl
    simp only [execOp, h1, h0]
    simp [eqGuard, binOp, run_eqCnil w hu]
end
section
variable {P : Program} {L : List Res} {E : Env} {dst : Option Tmp} {ty : TypeId} {pos : String} {after : Array Edge} {gd : Option (Nat × Bool)}
/-- A whole variable of one's own; of a slice of one's own in it stays what it reads as. -/
theorem op_loadAW {x : Operand} {g : Nat} {e : TypeId} {ts ts' : List Ty} {t : TypeId} (i : Nat) (hx : Opd E x = some (Is (pAt g 0))) (hL : L[i]? = some (ownP g e ts)) (hag : aggB P t = some true) (hsz : (P.info? t).map (·.size) = some ts.length) (hs : TsSub ts ts') : OpP P L E ⟨dst, .load t x, ty, pos, after, gd⟩ (TAgg ts') := by
  have h := op_loadAO (dst := dst) (ty := ty) (pos := pos) (after := after) (gd := gd) (ts := ts) (ts' := ts) i hx hL hag hsz (by simp) rfl
  intro a w G S hs' ho ht K Q k
  exact h a w G S hs' ho ht K Q fun v w' G' he hv => k v w' G' he (Sub.agg hs _ _ hv)
theorem TsSub.own {v : Value} {T : Ty} {A B : List Ty} (k : TsSub A B) : TsSub (TAnd (Is v) T :: A) (T :: B) := ⟨Sub.ownR (Sub.refl _), k⟩
theorem TsSub.keep {T : Ty} {A B : List Ty} (k : TsSub A B) : TsSub (T :: A) (T :: B) := ⟨Sub.refl _, k⟩
end
/-! ### guarded calls that turn what is one's own: the guard is known -/
/-- Slots of guarded operations whose guards are known where they are met. -/
structure Sure (ds : List Nat) : Prop where
  t : True
theorem Sure.mk' (ds : List Nat) : Sure ds := ⟨trivial⟩
section
variable {F : FCtx} {E : Env} {L : List Res} {Q : Exit → Act → World → Prop} {ops : Array Oper} {rest : List Oper} {ds : List Nat} {d' : Nat} {op : Op} {ty : TypeId} {pos : String} {after : Array Edge} {j : Nat} {want b : Bool} {d : Nat}
theorem RegS.sure (hm : Sure ds) (hmd : ds.any (Nat.beq d') = true) (hj : (ops[j]?).bind (·.dst) = some d) (he : E.get d = some (Is (.bool b))) (hb : b = want) (h : RegS F ops Q (⟨some d', op, ty, pos, after, none⟩ :: rest) E L) : RegS F ops Q (⟨some d', op, ty, pos, after, some (j, want)⟩ :: rest) E L := by
  have hg : GdOk ops E ⟨some d', op, ty, pos, after, some (j, want)⟩ := .inr ⟨j, want, d, _, _, rfl, hj, he, GuardT.is b want, hb⟩
  rcases h with ⟨T, h1, h2, h3⟩ | ⟨T, L', _, h1, h2, h3⟩
  · have h2' : OpP F.P L E ⟨some d', op, ty, pos, after, some (j, want)⟩ T := h2
    exact .inr ⟨fun _ => T, fun _ => L, hg, h1, OpC.of_P h2', fun _ => h3⟩
  · exact .inr ⟨T, L', hg, h1, h2, h3⟩
theorem RegS.skip (hm : Sure ds) (hmd : ds.any (Nat.beq d') = true) (hd : Nat.blt d' F.N = true) (hj : (ops[j]?).bind (·.dst) = some d) (he : E.get d = some (Is (.bool b))) (hb : b = !want) (h : RegS F ops Q rest ((d', TIf (b = want) (Is (.bool false))) :: E) L) : RegS F ops Q (⟨some d', op, ty, pos, after, some (j, want)⟩ :: rest) E L :=
  .g hd rfl hj he (fun e => by rw [e] at hb; cases want <;> cases hb) h
end
/-! ### calls of function values that turn what is one's own -/
section
variable {P : Program} {L L' : List Res} {E : Env} {dst : Option Tmp} {ty : TypeId} {pos : String} {after : Array Edge} {gd : Option (Nat × Bool)}
theorem oc_callVR {f : FuncId} {A Cs : List Ty} {R : Res} {Li : List Res} {T : Ty} {Lo : List Res} {t : Tmp} {xs : List Operand} {tys : Array TypeId} {is : List Nat} (ht : E.get t = some (TFn f Cs)) (zx : OpdsS E xs A) (hf : CallsC P f (A ++ Cs) (R :: Li) (fun _ => T) (fun _ => Lo)) (zp : PickL L is (R :: Li)) (zd : distinct is = true) (zl : Nat.ble is.length Lo.length = true) (zL : updL L is Lo = L') :
    OpC P L E ⟨dst, .call { callee := .value (.tmp t), args := xs.toArray, argTypes := tys }, ty, pos, after, gd⟩ (fun _ => T) (fun _ => L') := by
  subst zL
  intro a w G S hs ho htt K Q k
  obtain ⟨vs, e, hvs⟩ := htt (.tmp t) (by simp [Op.operands, Call.operands]) _ ht
  have hargs := OpdsS.args (G := G) (a := a) xs A zx (fun x hx' => htt x (by simp [Op.operands, Call.operands, hx']))
  have hrun : (execOp a.eval (⟨dst, .call { callee := .value (.tmp t), args := xs.toArray, argTypes := tys }, ty, pos, after, gd⟩ : Oper)).run P w = .ok (.enter f ((xs.map a.eval) ++ vs).toArray) w := by
    simp [execOp, resolve, Deferred.ofValue, e, invoke, hf.enter]
  simp only [Oper.wp, hrun, Oper.upon_enter]
  refine (hf.calls _ w G _ hs (ho.pick zd zp) (hargs.append hvs)).mono ?_
  rintro e w' ⟨v, G', Sc, rfl, hext, hc, hcs, hT⟩
  obtain ⟨S', h1, h2⟩ := ho.upd zd zp (Z := fun b => ∃ i, ∃ i', is[i]? = some i' ∧ S i' b) (fun b ⟨k, i, h⟩ => ⟨k, i, h⟩) hext (Nat.le_of_ble_eq_true zl) hc (fun i b hb => (hcs i b hb).imp id (fun ⟨k, i, h⟩ => ⟨k, i, h⟩))
  exact k v w' G' S' ⟨hext.sat, hext.le, hext.os, hext.tape, hext.output, hext.size, fun b hb hz => hext.blk b hb (fun ⟨k, i, _, h⟩ => hz ⟨i, h⟩)⟩ h1 h2 hT
end
end Go.Vk
