/-
  The rules of the program logic for strings that share a row of bytes of one's own (unsafe.SliceData, unsafe.String). Nothing here speaks of a program; no conditions.
  Numbers and bytes in a row of bytes: the plain functions. Nothing here speaks of a program; no conditions.
  What is laid is read as it was: numbers, bytes, rows. Nothing here speaks of a program; no conditions.
-/
import Derived.Test.YtohhhaeemephnaaGaf
import Derived.Lib.UnsafeStr
import Derived.Lib.AppendStr
set_option linter.unusedSimpArgs false
set_option linter.unusedVariables false
set_option linter.unusedVariables false
namespace Go.Vk
theorem freeze_n (w : World) (g o n : Nat) (cs : Array Value) (e : TypeId) (fr : Nat × Nat) (h : w.heap[g]? = some (.cells cs e fr)) : ∃ fr', (w.freeze ⟨g, o, none⟩ n).heap[g]? = some (.cells cs e fr') := by
  by_cases hn : n = 0
  · exact ⟨fr, by simp [World.freeze, hn, h]⟩
  have hlt : g < w.heap.size := (Array.getElem?_eq_some_iff.1 h).1
  have hv : w.heap[g] = .cells cs e fr := (Array.getElem?_eq_some_iff.1 h).2
  obtain ⟨lo, hi⟩ := fr
  refine ⟨if lo == hi then (o, o + n) else (min lo o, max hi (o + n)), ?_⟩
  simp only [World.freeze, if_neg hn]
  rw [Array.getElem?_eq_getElem (by simpa using hlt), Array.getElem_modify]
  simp [hv]
theorem freeze_ext {G : Imm} {w : World} (hs : Sat G w) (g o n : Nat) (cs : Array Value) (e : TypeId) (fr : Nat × Nat) (h3 : w.heap[g]? = some (.cells cs e fr)) : Ext (fun b => b = g) G w G (w.freeze ⟨g, o, none⟩ n) := by
  obtain ⟨fr', hf⟩ := freeze_n w g o n cs e fr h3
  have hoth : ∀ b, b ≠ g → (w.freeze ⟨g, o, none⟩ n).heap[b]? = w.heap[b]? := fun b hb => by
    unfold World.freeze
    split
    · rfl
    · simp only [Array.getElem?_modify]
      rw [if_neg (fun e => hb e.symm)]
  have hsat : Sat G (w.freeze ⟨g, o, none⟩ n) := by
    intro b o' u hb
    have := hs b o' u hb
    by_cases hbg : b = g
    · subst hbg
      simp only [World.cell?, h3, hf] at this ⊢
      exact this
    · simp only [World.cell?] at this ⊢
      rw [hoth b hbg]; exact this
  refine ⟨hsat, Imm.le.refl G, ?_, ?_, ?_, ?_, fun b _ hb => ⟨hoth b hb, fun _ => rfl⟩⟩ <;> (unfold World.freeze; split <;> simp)
section
variable {P : Program} {L : List Res} {E : Env} {dst : Option Tmp} {ty : TypeId} {pos : String} {after : Array Edge} {gd : Option (Nat × Bool)}
/-- What unsafe.SliceData tells of the slice v that reads as l. -/
def TData (v : Value) (l : List UInt8) : Ty := ⟨fun G u => (TBytes l).p G v ∧ ∃ pa, u = .pointer pa ∧ ∀ a n c, v = .slice (some a) n c → c ≠ 0 → pa = some a, fun h ⟨k, r⟩ => ⟨(TBytes l).mono h k, r⟩⟩
theorem op_sliceData {x : Operand} {t e e' : TypeId} {l : List UInt8} {v : Value} (i : Nat) (hx : Opd E x = some (TAnd (Is v) (TBytes l))) (hL : L[i]? = some (ownSl v 1 e)) (hp : P.underlying ty = some (.pointer e')) :
    OpP P L E ⟨dst, .call { callee := .builtin .unsafeSliceData, args := #[x], argTypes := #[t] }, ty, pos, after, gd⟩ (TData v l) :=
  OpP.laid fun a w G S hs ho ht => by
    have hxx := ht x (by simp [Op.operands, Call.operands]) _ hx
    have hxv : a.eval x = v := hxx.1
    have hsl : (TBytes l).p G v := by have := hxx.2; rwa [hxv] at this
    rcases ho.res i _ hL with ⟨h1, _⟩ | ⟨g, n, cap, cs, h1, h2, h3, h4, h5, h6, h7⟩
    · refine ⟨.pointer none, w, G, ?_, Ext.refl hs, hsl, none, rfl, fun a n c hv => by rw [h1] at hv; simp at hv⟩
      have hr := Lib.run_unsafeSliceData_nil (P := P) w #[t] ty 0 0
      simp [execOp, resolve, invoke, builtin, hxv, h1, hr]
    · by_cases hc : cap = 0
      · subst hc
        have hr := Lib.run_unsafeSliceData_zero (P := P) w #[t] ty e' hp ⟨g, 0, none⟩ n (e, cs.size) (by simp [World.shape?, h3])
        have hext := Ext.new hs [] (.view ⟨g, 0, none⟩ e') (fun j v hj => by simp at hj) (w.alloc (.view ⟨g, 0, none⟩ e')) rfl rfl rfl rfl
        refine ⟨.pointer (some ⟨w.heap.size, 0, none⟩), w.alloc (.view ⟨g, 0, none⟩ e'), _, ?_, hext, (TBytes l).mono hext.le hsl, _, rfl, fun a n c hv hc => by rw [h1] at hv; simp at hv; omega⟩
        simp [execOp, resolve, invoke, builtin, hxv, h1, hr]
      · have hr := Lib.run_unsafeSliceData_row (P := P) w #[t] ty ⟨g, 0, none⟩ n cap hc
        refine ⟨.pointer (some ⟨g, 0, none⟩), w, G, ?_, Ext.refl hs, hsl, _, rfl, fun a n c hv _ => by rw [h1] at hv; simp at hv; rw [hv.1]⟩
        simp [execOp, resolve, invoke, builtin, hxv, h1, hr]
theorem oc_unsafeString {x y : Operand} {pt it e : TypeId} {l : List UInt8} {v : Value} {L' : List Res} (i : Nat) (hx : Opd E x = some (TData v l)) (hy : Opd E y = some (okI .i64 (l.length : Int))) (hL : L[i]? = some (ownSl v 1 e)) (hp : P.underlying pt = some (.pointer e)) (hc : P.cellsOf e = 1) (hL' : L.set i empR = L') :
    OpC P L E ⟨dst, .call { callee := .builtin .unsafeString, args := #[x, y], argTypes := #[pt, it] }, ty, pos, after, gd⟩ (fun _ => Is (str l)) (fun _ => L') := by
  subst hL'
  intro a w G S hs ho ht K Q k
  obtain ⟨hsl, pa, hxv, hpa⟩ := ht x (by simp [Op.operands, Call.operands]) _ hx
  have hyv : a.eval y = .int .i64 (l.length : Int) := ht y (by simp [Op.operands, Call.operands]) _ hy
  have hiL : i < L.length := (List.getElem?_eq_some_iff.1 hL).1
  have key : ∃ w' , (execOp a.eval (⟨dst, .call { callee := .builtin .unsafeString, args := #[x, y], argTypes := #[pt, it] }, ty, pos, after, gd⟩ : Oper)).run P w = .ok (.value (str l)) w' ∧ Ext (S i) G w G w' := by
    obtain ⟨av, capv, ev, hlcv, hcmv, -, hnilv, hadv⟩ := id hsl
    by_cases h0 : l = []
    · subst h0
      refine ⟨w, ?_, Ext.refl hs⟩
      have hr := Lib.run_unsafeString_none (P := P) w pt it ty pa
      simp only [execOp, resolve, hxv, hyv]
      simp [invoke, builtin, hxv, hyv, hr, str]
      rfl
    · have hl0 : 0 < l.length := List.length_pos_iff.2 h0
      rcases ho.res i _ hL with ⟨h1, _⟩ | ⟨g, n, cap, cs, h1, h2, h3, h4, h5, h6, h7⟩
      · rw [ev] at h1; simp at h1; omega
      · rw [h1] at ev
        simp only [Value.slice.injEq] at ev
        obtain ⟨e1, e2, e3⟩ := ev
        subst e2; subst e3; subst e1
        have hpa' := hpa ⟨g, 0, none⟩ _ _ h1 (by omega)
        subst hpa'
        obtain ⟨_, hel⟩ := hadv _ rfl
        have hr := Lib.run_unsafeString_row (P := P) w pt it ty e hp hc g cs.size (by simp [World.shape?, h3]) l h0 (by omega) (by unfold maxLen at h5; omega) (fun j z hz => by
          obtain ⟨_, hcc⟩ := hel j z hz
          obtain ⟨u, hu, hT, _⟩ := hcc 0 _ rfl
          cases hT
          have := hs _ _ _ hu
          unfold Addr.add
          split
          · subst j; simpa using this
          · simpa using this)
        refine ⟨w.freeze ⟨g, 0, none⟩ l.length, ?_, ?_⟩
        · simp only [execOp, resolve, hxv, hyv]
          simp [invoke, builtin, hxv, hyv, hr, str]
        · have := freeze_ext hs g 0 l.length cs e (0, 0) h3
          have hS : S i = fun b => b = g := funext fun b => propext (h2 b)
          rw [hS]; exact this
  obtain ⟨w', hr, hext⟩ := key
  simp only [Oper.wp, hr, Oper.upon_value]
  refine k (str l) w' G _ ⟨hext.sat, hext.le, hext.os, hext.tape, hext.output, hext.size, fun b hb hz => hext.blk b hb (fun e => hz ⟨i, e⟩)⟩ (ho.set hext hiL (fun b e => e) empR (fun _ => False) (fun _ z => z.elim) trivial) ?_ rfl
  intro j b hb
  by_cases hj : j = i
  · simp [hj] at hb
  · simp only [hj, if_false] at hb; exact .inr ⟨j, hb⟩
/-- A string's bytes, put behind a slice of one's own. -/
theorem run_append_str {l m : List UInt8} {t u tyy e : TypeId} (hu : P.underlying t = some (.slice e)) (hus : P.underlying u = some .string) (hinf : ByteEl P e)
    {S : Nat → Nat → Prop} {G : Imm} {w : World} (hs : Sat G w) (ho : Owns S L G w) {v : Value} {i : Nat} (hL : L[i]? = some (ownSl v 1 e)) (hv : (TSl 1 cB l).p G v) (hb0 : l.length + m.length ≤ 140737488355328) :
    ∃ v' w' G' S', (Builtin.append_ #[t, u] tyy #[v, str m]).run P w = .ok v' w' ∧ Ext (fun b => ∃ i, S i b) G w G' w' ∧ Owns S' (L.set i (ownSl v' 1 e)) G' w' ∧ (∀ i b, S' i b → w.heap.size ≤ b ∨ ∃ j, S j b) ∧ (TSl 1 cB (l ++ m)).p G' v' := by
  obtain ⟨sz, hsz⟩ : ∃ sz : Nat, sz = 1 := ⟨1, rfl⟩
  obtain ⟨by_, hby⟩ : ∃ by_ : Nat, by_ = 1 := ⟨1, rfl⟩
  have hb : (l.length + m.length) * by_ ≤ 140737488355328 := by subst hby; omega
  have hm : l.length + m.length ≤ maxLen := by simp only [maxLen]; omega
  obtain ⟨z, hzz⟩ : ∃ z : Value, z = .int .u8 0 := ⟨_, rfl⟩
  have hz : z.cells.size = sz := by subst hzz; subst hsz; rfl
  have hinf : (P.info? e).map (fun i => (i.zero, i.size, i.bytes)) = some (some z, sz, by_) := by subst hzz; subst hsz; subst hby; exact hinf
  rw [← hsz] at hL hv ⊢
  let f : UInt8 → List Ty := cB
  obtain ⟨inf, hi, hiz, his, hib⟩ := info_parts hinf
  have hiL : i < L.length := (List.getElem?_eq_some_iff.1 hL).1
  have hres := ho.res i _ hL
  obtain ⟨av, capv, ev, hlcv, hcmv, -, hnilv, hadv⟩ := hv
  have hxs : (str m) = .string ⟨m.toArray⟩ := rfl
  have hsize : (⟨m.toArray⟩ : ByteArray).size = m.length := size_str m
  have hfm : ∀ y ∈ m, (f y).length = sz := fun y hy => by rw [hsz]; rfl
  have hfl : ∀ y ∈ l, (f y).length = sz := fun y hy => by
    obtain ⟨k, hk, e⟩ := List.getElem_of_mem hy
    cases av with
    | none => have := hnilv rfl; omega
    | some ad => exact ((hadv ad rfl).2 k y (by rw [List.getElem?_eq_getElem hk, e])).1
  have hf : ∀ y ∈ l ++ m, (f y).length = sz := fun y hy => (List.mem_append.1 hy).elim (hfl y) (hfm y)
  obtain ⟨news, hnews⟩ : ∃ news, news = Lib.byteCells m := ⟨_, rfl⟩
  have hcells : Lib.strCells ⟨m.toArray⟩ = news := by rw [Lib.strCells_eq, hnews]
  have hnl : news.length = m.length * sz := by rw [hnews, Lib.byteCells_length, hsz, Nat.mul_one]
  have hnT : ∀ (i : Nat) (y : UInt8), m[i]? = some y → ∀ (j : Nat) (T : Ty), (f y)[j]? = some T → ∃ u, news[i * sz + j]? = some u ∧ T.p G u ∧ u.oneCell' = true := by
    intro i y hy j T hT
    have hj : j = 0 := by have := (List.getElem?_eq_some_iff.1 hT).1; simp only [f, cB, List.length_singleton] at this; omega
    subst hj
    simp only [f, cB, List.getElem?_cons_zero, Option.some.injEq] at hT
    subst hT
    refine ⟨.int .u8 y.toNat, ?_, rfl, rfl⟩
    rw [hnews, hsz, Nat.mul_one, Nat.add_zero]
    simp [Lib.byteCells, hy]
  have hnl' : news.length = m.length * inf.size := by rw [his]; exact hnl
  have hTall : ∀ xs : List Value, xs.length = l.length * sz → (∀ (i : Nat) (y : UInt8), l[i]? = some y → ∀ (j : Nat) (T : Ty), (f y)[j]? = some T → ∃ u, xs[i * sz + j]? = some u ∧ T.p G u ∧ u.oneCell' = true) →
      ∀ (i : Nat) (y : UInt8), (l ++ m)[i]? = some y → ∀ (j : Nat) (T : Ty), (f y)[j]? = some T → ∃ u, (xs ++ news)[i * sz + j]? = some u ∧ T.p G u ∧ u.oneCell' = true := by
    intro xs hxl hxT i y hy j T hT
    have hjl := (List.getElem?_eq_some_iff.1 hT).1
    by_cases hil : i < l.length
    · rw [List.getElem?_append_left hil] at hy
      obtain ⟨u, h1, h2, h3⟩ := hxT i y hy j T hT
      exact ⟨u, by rw [List.getElem?_append_left (List.getElem?_eq_some_iff.1 h1).1]; exact h1, h2, h3⟩
    · rw [List.getElem?_append_right (by omega)] at hy
      obtain ⟨u, h1, h2, h3⟩ := hnT _ y hy j T hT
      refine ⟨u, ?_, h2, h3⟩
      have e1 : i * sz = l.length * sz + (i - l.length) * sz := by rw [← Nat.add_mul]; congr 1; omega
      rw [List.getElem?_append_right (by rw [hxl]; omega), hxl, ← h1]
      congr 1; omega
  have hsmall : l.length + m.length ≤ 9223372036854775807 := by simp only [maxLen] at hm; omega
  -- a new row
  have hgrown : ∀ (old : Nat) (xs : List Value), xs.length = l.length * sz → (∀ (i : Nat) (y : UInt8), l[i]? = some y → ∀ (j : Nat) (T : Ty), (f y)[j]? = some T → ∃ u, xs[i * sz + j]? = some u ∧ T.p G u ∧ u.oneCell' = true) →
      (Builtin.append_ #[t, u] tyy #[v, str m]).run P w = .ok (.slice (some ⟨w.heap.size, 0, none⟩) (l.length + m.length) (grownCap w (l.length + m.length) old e)) (w.drew.alloc (.cells (xs.toArray ++ news.toArray ++ Builtin.zeroCells z.cells (grownCap w (l.length + m.length) old e - (l.length + m.length))) e)) →
      ∃ v' w' G' S', (Builtin.append_ #[t, u] tyy #[v, str m]).run P w = .ok v' w' ∧ Ext (fun b => ∃ i, S i b) G w G' w' ∧ Owns S' (L.set i (ownSl v' sz e)) G' w' ∧ (∀ i b, S' i b → w.heap.size ≤ b ∨ ∃ j, S j b) ∧ (TSl sz f (l ++ m)).p G' v' := by
    intro old xs hxl hxT hrun
    have hge := grownCap_ge w (l.length + m.length) old e
    have hcm := grownCap_le_maxLen w (l.length + m.length) old e hm
    obtain ⟨hext, hsl, hown⟩ := fresh_sl (f := f) (sz := sz) (l := l ++ m) (vs := xs ++ news) (cap := grownCap w (l.length + m.length) old e) (w1 := w.drew.alloc (.cells (xs.toArray ++ news.toArray ++ Builtin.zeroCells z.cells (grownCap w (l.length + m.length) old e - (l.length + m.length))) e)) (fr := (0, 0)) hs rfl rfl rfl rfl
      (by simp only [Array.toList_append, List.append_assoc]; rw [← List.append_assoc]; exact List.take_left) (by simpa using hge) hcm (by simp [hxl, hnl, Nat.add_mul]) hf (hTall xs hxl hxT)
    have hsl' := hsl false (fun e => by cases e)
    have hown' := hown (by simp only [Array.size_append, List.size_toArray, size_zeroCells, hz, hxl, hnl, ← Nat.add_mul]; congr 1; omega) rfl
    rw [List.length_append] at hsl' hown'
    refine ⟨_, _, _, _, hrun, ⟨hext.sat, hext.le, hext.os, hext.tape, hext.output, hext.size, fun b hb' _ => hext.blk b hb' (fun z => z)⟩, ho.set (Z := noZ) hext hiL (fun _ z => z.elim) _ _ (fun b hb' => ?_) hown', ?_, hsl'⟩
    · subst hb'; exact ⟨.inr (Nat.le_refl _), by simp⟩
    · intro j b hb'
      by_cases hj : j = i
      · simp only [hj, if_true] at hb'; exact .inl (by omega)
      · simp only [hj, if_false] at hb'; exact .inr ⟨j, hb'⟩
  rcases hres with ⟨hn, hnS⟩ | ⟨g, n, cap, cs, h1, h2, h3, h4, h5, h6, h7⟩
  · have hl0 : l = [] := by
      rw [hn] at ev; simp only [Value.slice.injEq] at ev
      exact List.eq_nil_of_length_eq_zero ev.2.1.symm
    subst hl0
    by_cases hm0 : m.length = 0
    · have : m = [] := List.eq_nil_of_length_eq_zero hm0
      subst this
      have hn0 : news = [] := List.eq_nil_of_length_eq_zero (by simpa using hnl)
      refine ⟨.slice none 0 0, w, G, S, ?_, Ext.refl hs, ?_, fun i b h => .inr ⟨i, h⟩, TSlX.sl (nil_sl sz f G)⟩
      · subst hn
        have hfc := Lib.run_firstCells_string (P := P) w inf.size ⟨([] : List UInt8).toArray⟩
        have e0 : (⟨([] : List UInt8).toArray⟩ : ByteArray).size = 0 := rfl
        rw [e0] at hfc
        simp [hxs, Builtin.append_, run_underlying hu, run_underlying hus, sizeOf, typeInfo, hi, Builtin.lenOf, hfc, e0]
      · rw [set_self (by rw [← hn]; exact hL)]; exact ho
    · refine hgrown 0 [] (by simp) (by simp) ?_
      have hr := run_append_nil_string (P := P) w t u tyy e inf z hu hus hi hiz ⟨m.toArray⟩ (by omega) (by simp at hsmall; omega) (by rw [hib, hsize]; simp only [List.length_nil, Nat.zero_add] at hb; omega)
      have e1 : ((⟨m.toArray⟩ : ByteArray).data.map fun b => Value.int .u8 b.toNat) = news.toArray := by
        apply Array.ext'
        rw [hnews]; simp [Lib.byteCells]
      rw [e1, hsize] at hr
      subst hn
      rw [hxs, hr]; simp
  · rw [h1] at ev
    simp only [Value.slice.injEq] at ev
    obtain ⟨rfl, rfl, rfl⟩ := ev
    obtain ⟨_, helv⟩ := hadv ⟨g, 0, none⟩ rfl
    obtain ⟨xs, hxl, hxG, hxT⟩ := sl_values (b := g) (o := 0) (f := f) (sz := sz) (l := l) (G := G) helv
    have hxc : ∀ (j : Nat) (u : Value), xs[j]? = some u → cs[j]? = some u := by
      intro j u hj
      have hcell := hs _ _ _ (hxG j u hj).1
      simp only [World.cell?, h3] at hcell
      simpa using hcell
    have htake : cs.toList.take (l.length * sz) = xs := by
      apply List.ext_getElem?
      intro j
      rw [List.getElem?_take]
      by_cases hj : j < l.length * sz
      · rw [if_pos hj]
        obtain ⟨u, hu'⟩ : ∃ u, xs[j]? = some u := ⟨_, List.getElem?_eq_getElem (by omega)⟩
        rw [hu']; simpa using hxc j u hu'
      · rw [if_neg hj, List.getElem?_eq_none (by omega)]
    by_cases hroom : l.length + m.length ≤ cap
    · -- in place
      have hfit : l.length * inf.size + news.length ≤ cs.size := by rw [hnl, his, h6, ← Nat.add_mul]; exact Nat.mul_le_mul_right _ hroom
      have hr := Lib.run_append_room_string (P := P) w t u tyy e inf hu hus hi (by rw [his, hsz]) g l.length cap cs h3 ⟨m.toArray⟩ (by rw [hsize]; exact hroom) (by rw [hsize]; rw [hnl, hsz, his, hsz] at hfit; omega)
      rw [hsize, hcells] at hr
      have hn1 : news.length = m.length := by rw [hnl, hsz, Nat.mul_one]
      have hn2 : l.length * inf.size = l.length := by rw [his, hsz, Nat.mul_one]
      have hSg : S i g := (h2 g).2 rfl
      have hlen : (xs ++ news).length = (l.length + m.length) * sz := by rw [List.length_append, hxl, hnl, Nat.add_mul]
      let cs' : Array Value := (cs.toList.take l.length ++ news ++ cs.toList.drop (l.length + m.length)).toArray
      have hw' : (w.setRow g cs').heap[g]? = some (.cells cs' e (0, 0)) := setRow_heap w g cs cs' e (0, 0) h3
      have hoth : ∀ b, b ≠ g → (w.setRow g cs').heap[b]? = w.heap[b]? := fun b hb' => setRow_other w g b cs' hb'
      have hcs' : ∀ (j : Nat) (u : Value), (xs ++ news)[j]? = some u → cs'[j]? = some u := by
        intro j u hj
        have : cs'.toList[j]? = some u := by
          show (cs.toList.take l.length ++ news ++ cs.toList.drop (l.length + m.length))[j]? = some u
          rw [show cs.toList.take l.length = xs by rw [← htake, hsz, Nat.mul_one], List.getElem?_append_left (List.getElem?_eq_some_iff.1 hj).1]; exact hj
        simpa using this
      let G' : Imm := fun b o => if b = g then (xs ++ news)[o]? else G b o
      have hle : Imm.le G G' := by
        intro b o u hbo
        show (if b = g then (xs ++ news)[o]? else G b o) = some u
        by_cases hbg : b = g
        · rw [if_pos hbg]; subst hbg
          have ho' : o < l.length * sz := by
            rcases Nat.lt_or_ge o (l.length * sz) with h | h
            · exact h
            · rw [h7 o h] at hbo; cases hbo
          obtain ⟨u', hu'⟩ : ∃ u', xs[o]? = some u' := ⟨_, List.getElem?_eq_getElem (by omega)⟩
          have := (hxG o u' hu').1
          simp only [Nat.zero_add] at this
          rw [List.getElem?_append_left (by omega), hu', ← this, hbo]
        · rw [if_neg hbg]; exact hbo
      have hsat : Sat G' (w.setRow g cs') := by
        intro b o u hbo
        change (if b = g then (xs ++ news)[o]? else G b o) = some u at hbo
        by_cases hbg : b = g
        · rw [if_pos hbg] at hbo; subst hbg
          simp only [World.cell?, hw']
          simpa using hcs' o u hbo
        · rw [if_neg hbg] at hbo
          have h1' := hs _ _ _ hbo
          simp only [World.cell?] at h1' ⊢
          rw [hoth b hbg]; exact h1'
      have hext : Ext (fun b => b = g) G w G' (w.setRow g cs') := ⟨hsat, hle, rfl, rfl, rfl, by simp [World.setRow], fun b _ hbg => ⟨hoth b hbg, fun o => if_neg hbg⟩⟩
      have hss : (TSl sz f (l ++ m)).p G' (.slice (some ⟨g, 0, none⟩) (l.length + m.length) cap) := by
        have := sl_of_values (f := f) (sz := sz) (l := l ++ m) (G := G') (g := g) (cap := cap) (x := false) (vs := xs ++ news) (by simpa using hroom) h5 (fun e => by cases e) hf
          (fun i y hy j T hT => by obtain ⟨u, a1, a2, a3⟩ := hTall xs hxl hxT i y hy j T hT; exact ⟨u, a1, T.mono hle a2, a3⟩) (fun j u hj => by show (if g = g then _ else _) = _; rw [if_pos rfl]; exact hj)
        rw [List.length_append] at this; exact this
      refine ⟨_, _, G', _, by rw [h1, hxs]; exact hr, ⟨hext.sat, hext.le, hext.os, hext.tape, hext.output, hext.size, fun b hb' hz' => hext.blk b hb' (fun e => hz' ⟨i, by rw [e]; exact hSg⟩)⟩,
        ho.set hext hiL (fun b e => by rw [e]; exact hSg) _ (fun b => b = g) (fun b e => ⟨.inl (by rw [e]; exact hSg), by rw [e]; exact (Array.getElem?_eq_some_iff.1 hw').1⟩)
          (.inr ⟨g, l.length + m.length, cap, cs', rfl, fun b => Iff.rfl, hw', hroom, h5, ?_, fun o ho' => ?_⟩), ?_, hss⟩
      · simp only [cs', List.size_toArray, List.length_append, List.length_take, List.length_drop, Array.length_toList]
        rw [h6]; rw [h6] at hfit; omega
      · show (if g = g then _ else _) = _
        rw [if_pos rfl]; exact List.getElem?_eq_none (by rw [hlen]; exact ho')
      · intro j b hb'
        by_cases hj : j = i
        · simp only [hj, if_true] at hb'; exact .inr ⟨i, by rw [hb']; exact hSg⟩
        · simp only [hj, if_false] at hb'; exact .inr ⟨j, hb'⟩
    · refine hgrown cap xs hxl hxT ?_
      have hr := Lib.run_append_grow_string (P := P) w t u tyy e inf z hu hus hi hiz ⟨g, 0, none⟩ l.length cap xs (by rw [his]; exact hxl) (fun j u hj => by
        have := hxc j u hj
        unfold Addr.add
        split
        · subst j; simp only [World.cell?, h3]; simpa using this
        · simp only [World.cell?, h3]; simpa using this) ⟨m.toArray⟩ (by rw [hsize]; omega) (by rw [hsize]; omega) (by rw [hsize]; exact growslice_fits (by omega) (by rw [hib]; exact hb))
      rw [h1, hxs]; rw [hsize, hcells] at hr; exact hr

theorem oc_appendStr {x y : Operand} {l m : List UInt8} {t u e : TypeId} {v : Value} {L' : Value → List Res} (i : Nat) (hx : Opd E x = some (TAnd (Is v) (TBytes l))) (hL : L[i]? = some (ownSl v 1 e)) (hy : Opd E y = some (Is (str m)))
    (hu : P.underlying t = some (.slice e)) (hus : P.underlying u = some .string) (hinf : ByteEl P e) (hb : l.length + m.length ≤ 140737488355328) (hL' : ∀ v', L.set i (ownSl v' 1 e) = L' v') :
    OpC P L E ⟨dst, .call { callee := .builtin .append, args := #[x, y], argTypes := #[t, u] }, ty, pos, after, gd⟩ (fun v' => TAnd (Is v') (TBytes (l ++ m))) L' := by
  have hLe : L' = fun v' => L.set i (ownSl v' 1 e) := by funext v'; exact (hL' v').symm
  subst hLe
  intro a w G S hs ho ht K Q k
  have hxx := ht x (by simp [Op.operands, Call.operands]) _ hx
  have hyv : a.eval y = str m := ht y (by simp [Op.operands, Call.operands]) _ hy
  have hxv : a.eval x = v := hxx.1
  obtain ⟨v', w', G', S', hr, h1, h2, h3, h4⟩ := run_append_str (P := P) (tyy := ty) hu hus hinf hs ho hL (by rw [← hxv]; exact hxx.2) hb
  have : (execOp a.eval (⟨dst, .call { callee := .builtin .append, args := #[x, y], argTypes := #[t, u] }, ty, pos, after, gd⟩ : Oper)).run P w = .ok (.value v') w' := by
    simp only [execOp, resolve]
    simp [invoke, builtin, hxv, hyv, hr]
  simp only [Oper.wp, this, Oper.upon_value]
  exact k v' w' G' S' h1 h2 h3 ⟨rfl, h4⟩
end
theorem b8_nat (c : UInt8) : b8 (c.toNat : Int) = c := by
  apply UInt8.toNat_inj.1
  have := b8_toNat (c.toNat : Int)
  have := c.toNat_lt
  omega
/-- nil, or the place's own address. -/
def selfP (g : Nat) (b : Bool) : Value := bif b then pAt g 0 else .pointer none
theorem Sub.selfT (g : Nat) : Sub (Is (pAt g 0)) (Is (selfP g true)) := fun _ _ h => h
theorem Sub.selfN (g : Nat) : Sub (Is (.pointer none)) (Is (selfP g false)) := fun _ _ h => h
/-- A contract at narrower arguments. -/
theorem ArgsT.sub {G : Imm} : ∀ {A B : List Ty} {vs : List Value}, TsSub A B → ArgsT G A vs → ArgsT G B vs
  | [], [], [], _, _ => trivial
  | T :: A, U :: B, v :: vs, h, k => ⟨h.1 _ _ k.1, ArgsT.sub h.2 k.2⟩
  | [], _ :: _, _, h, _ => h.elim
  | _ :: _, [], _, h, _ => h.elim
  | [], [], _ :: _, _, k => k.elim
  | _ :: _, _ :: _, [], _, k => k.elim
theorem CFn.sub {P : Program} {f : FuncId} {A B : List Ty} {T : Ty} (h : CFn P f B T) (s : TsSub A B) : CFn P f A T :=
  ⟨h.enter, fun vs w G S hs ho ha => h.calls vs w G S hs ho (ArgsT.sub s ha)⟩
theorem dropS {α : Type _} (i : Nat) (a : α) (l : List α) : List.drop (i + 1) (a :: l) = List.drop i l := rfl
theorem dropZ {α : Type _} (a : α) (l : List α) : List.drop 0 (a :: l) = a :: l := rfl
theorem dropN {α : Type _} (i : Nat) : List.drop i ([] : List α) = [] := by cases i <;> rfl
theorem dropN0 {α : Type _} : List.drop 0 ([] : List α) = [] := rfl
/-- Element by element. -/
def TssSub : List (List Ty) → List (List Ty) → Prop
  | [], [] => True
  | a :: A, b :: B => TsSub a b ∧ TssSub A B
  | _, _ => False
theorem TsSub.refl : ∀ A : List Ty, TsSub A A
  | [] => trivial
  | T :: A => ⟨Sub.refl T, TsSub.refl A⟩
theorem TssSub.refl : ∀ A : List (List Ty), TssSub A A
  | [] => trivial
  | a :: A => ⟨TsSub.refl a, TssSub.refl A⟩
theorem TssSub.append : ∀ {A B A' B' : List (List Ty)}, TssSub A A' → TssSub B B' → TssSub (A ++ B) (A' ++ B')
  | [], _, [], _, _, k => k
  | _ :: _, _, _ :: _, _, h, k => ⟨h.1, TssSub.append h.2 k⟩
  | [], _, _ :: _, _, h, _ => h.elim
  | _ :: _, _, [], _, h, _ => h.elim
theorem TssSub.one {a b : List Ty} (h : TsSub a b) : TssSub [a] [b] := ⟨h, trivial⟩
theorem TssSub.get : ∀ {A B : List (List Ty)}, TssSub A B → A.length = B.length ∧ ∀ (i : Nat) (b : List Ty), B[i]? = some b → ∃ a, A[i]? = some a ∧ TsSub a b
  | [], [], _ => ⟨rfl, fun i b h => by simp at h⟩
  | a :: A, b :: B, h => by
    obtain ⟨h1, h2⟩ := TssSub.get h.2
    refine ⟨by simp [h1], fun i b' hb => ?_⟩
    cases i with
    | zero => simp at hb; subst hb; exact ⟨a, rfl, h.1⟩
    | succ i => simp at hb; obtain ⟨a', h3, h4⟩ := h2 i b' hb; exact ⟨a', by simpa using h3, h4⟩
  | [], _ :: _, h => h.elim
  | _ :: _, [], h => h.elim
theorem Sub.trans {A B C : Ty} (h : Sub A B) (k : Sub B C) : Sub A C := fun G v x => k G v (h G v x)
theorem Sub.slE {sz : Nat} {A B : List (List Ty)} (h : TssSub A B) : Sub (TSl sz (fun ts : List Ty => ts) A) (TSl sz (fun ts : List Ty => ts) B) := by
  rintro G v ⟨a, cap, h1, h2, h3, h4, h5, h6⟩
  obtain ⟨hl, hg⟩ := TssSub.get h
  refine ⟨a, cap, by rw [h1, hl], by omega, h3, (fun e => by cases e), h5, fun ad e => ⟨fun hp => (h6 ad e).1 (by omega), fun i y hy => ?_⟩⟩
  obtain ⟨x, hx, hs⟩ := hg i y hy
  obtain ⟨k1, k2⟩ := (h6 ad e).2 i x hx
  obtain ⟨hl2, hg2⟩ := hs.get
  refine ⟨hl2.symm.trans k1, fun j U hU => ?_⟩
  obtain ⟨T, hT, hs2⟩ := hg2 j U hU
  obtain ⟨u, u1, u2, u3⟩ := k2 j T hT
  exact ⟨u, u1, hs2 _ _ u2, u3⟩
theorem op_stringX {P : Program} {L : List Res} {E : Env} {dst : Option Tmp} {ty : TypeId} {pos : String} {after : Array Edge} {gd : Option (Nat × Bool)} {t : Nat} {l : List UInt8} {st dt e : TypeId} (hx : E.get t = some (TSlX 1 cB l)) (hs : P.underlying st = some (.slice e)) (he : P.underlying e = some (.int .u8)) (hd : P.underlying dt = some .string) :
    OpP P L E ⟨dst, .convert st dt (.tmp t), ty, pos, after, gd⟩ (Is (str l)) :=
  OpP.unl (T0 := TBytes l) (Sub.slx rfl) hx (op_string (x := .tmp t) (by simp [Opd, Env.get]) hs he hd)
/-- A slice of one's own in a block of one's own; the zero block holds the empty one. -/
theorem RSub.zeroW (g : Nat) (e t : TypeId) : RSub (ownP g e [Is (.slice none 0 0)]) (packR fun v : Value => [ownP g e [TAnd (Is v) (TBytes [])], ownSl v 1 t]) := by
  intro S G w h
  refine ⟨.slice none 0 0, fun i b => i = 0 ∧ S b, fun b => ⟨fun hb => ⟨0, rfl, hb⟩, fun ⟨_, _, hb⟩ => hb⟩, fun i j b hi hj => hi.1.trans hj.1.symm, fun i b hi => by rw [hi.1]; simp, ?_⟩
  intro i r hr
  match i, hr with
  | 0, hr =>
    simp at hr; subst hr
    have : (fun (i : Nat) b => i = 0 ∧ S b) 0 = S := by funext b; simp
    rw [this]
    exact RSub.own (TsSub.cons (Sub.nilO rfl) TsSub.nil) _ _ _ h
  | 1, hr =>
    simp at hr; subst hr
    exact .inl ⟨rfl, fun b hb => by simp at hb⟩
theorem PickL.zeroW {L : List Res} {is : List Nat} {B : List Res} {g : Nat} {e t : TypeId} (i : Nat) (h : L[i]? = some (ownP g e [Is (.slice none 0 0)])) (k : PickL L is B) : PickL L (i :: is) ((packR fun v : Value => [ownP g e [TAnd (Is v) (TBytes [])], ownSl v 1 t]) :: B) := .cons i h (RSub.zeroW g e t) k
def shlU (m n : Int) : Int := IntKind.u64.wrap (m * 2 ^ n.toNat)
def orU (m n : Int) : Int := bitsOf .or .u64 m n
section
variable {P : Program} {L : List Res} {E : Env} {dst : Option Tmp} {ty : TypeId} {pos : String} {after : Array Edge} {gd : Option (Nat × Bool)}
theorem op_shr7u {x : Operand} {m : Int} {xt yt : TypeId} (hx : Opd E x = some (okI .u64 m)) : OpP P L E ⟨dst, .binOp .shr xt x (.const (.int .u64 7)) yt, ty, pos, after, gd⟩ (okI .u64 (m / 128)) :=
  op_shr (n := 7) hx rfl (by decide)
theorem op_shlu {x y : Operand} {m n : Int} {k' : IntKind} {xt yt : TypeId} (hx : Opd E x = some (okI .u64 m)) (hy : Opd E y = some (okI k' n)) (hn : 0 ≤ n ∧ n ≤ 64) : OpP P L E ⟨dst, .binOp .shl xt x y yt, ty, pos, after, gd⟩ (okI .u64 (shlU m n)) := op_shlw hx hy hn
theorem op_oru {x y : Operand} {m n : Int} {xt yt : TypeId} (hx : Opd E x = some (okI .u64 m)) (hy : Opd E y = some (okI .u64 n)) : OpP P L E ⟨dst, .binOp .or xt x y yt, ty, pos, after, gd⟩ (okI .u64 (orU m n)) := op_orb hx hy
theorem op_and127u {x : Operand} {m : Int} {xt yt : TypeId} (hx : Opd E x = some (okI .u64 m)) : OpP P L E ⟨dst, .binOp .and xt x (.const (.int .u64 127)) yt, ty, pos, after, gd⟩ (okI .u64 (m % 128)) := op_andM 7 hx rfl rfl rfl (InK.u64 (by omega))
end
end Go.Vk
set_option linter.unusedVariables false
namespace Go.Oct
open Go.Vk
/-- A number: seven bits to a byte, the lowest first. -/
def numB (n : Nat) : List UInt8 := if h : n < 128 then [b8 (n : Int)] else (b8 (n : Int) ||| b8 128) :: numB (n / 128)
theorem numB_lt {n : Nat} (h : n < 128) : numB n = [b8 (n : Int)] := by rw [numB]; simp [h]
theorem numB_ge {n : Nat} (h : ¬ n < 128) : numB n = (b8 (n : Int) ||| b8 128) :: numB (n / 128) := by rw [numB]; simp [h]
theorem numB_len (k : Nat) : ∀ n : Nat, n < 128 ^ (k + 1) → 1 ≤ (numB n).length ∧ (numB n).length ≤ k + 1 := by
  induction k with
  | zero => intro n hn; rw [numB_lt (by omega)]; simp
  | succ k ih =>
    intro n hn
    by_cases h : n < 128
    · rw [numB_lt h]; simp
    · rw [numB_ge h]
      have := ih (n / 128) (by rw [Nat.div_lt_iff_lt_mul (by decide)]; calc n < 128 ^ (k + 1 + 1) := hn
            _ = 128 ^ (k + 1) * 128 := Nat.pow_succ ..)
      simp only [List.length_cons]
      omega
theorem numB_le {n : Nat} (h : n ≤ 4611686018427387904) : 1 ≤ (numB n).length ∧ (numB n).length ≤ 9 := numB_len 8 n (by omega)
def bytB (l : List UInt8) : List UInt8 := numB l.length ++ l
theorem b8_mod (n : Int) : b8 (n % 256) = b8 n := by
  unfold b8
  congr 1
  omega
theorem low7_tab : ∀ i : Fin 256, (b8 ((i.val : Int) % 128) ||| b8 128) = (b8 (i.val : Int) ||| b8 128) := by decide +kernel
theorem low7 (n : Nat) : (b8 ((n : Int) % 128) ||| b8 128) = (b8 (n : Int) ||| b8 128) := by
  have h := low7_tab ⟨n % 256, by omega⟩
  have e1 : (((n % 256 : Nat) : Int) % 128) = (n : Int) % 128 := by omega
  have e2 : b8 ((n % 256 : Nat) : Int) = b8 (n : Int) := by
    rw [show ((n % 256 : Nat) : Int) = (n : Int) % 256 by omega, b8_mod]
  simp only [e1, e2] at h
  exact h
theorem numB_snoc {n : Nat} (h : ¬ n < 128) (l : List UInt8) : l ++ [b8 (n : Int) ||| b8 128] ++ numB (n / 128) = l ++ numB n := by
  rw [numB_ge h]; simp
theorem numB_snoc7 {n : Nat} (h : ¬ n < 128) (l : List UInt8) : l ++ [b8 ((n : Int) % 128) ||| b8 128] ++ numB (n / 128) = l ++ numB n := by
  rw [low7, numB_snoc h]
theorem flat_snoc {α β : Type} [Inhabited α] {l : List α} {i : Nat} (f : α → List β) (h : i < l.length) : (l.take (i + 1)).flatMap f = (l.take i).flatMap f ++ f (l.getD i default) := by
  rw [List.take_succ_eq_append_getElem h, List.flatMap_append, List.getD_eq_getElem?_getD, List.getElem?_eq_getElem h]; simp
theorem flat_part {α β : Type} {l : List α} (f : α → List β) (i : Nat) : ((l.take i).flatMap f).length ≤ (l.flatMap f).length := by
  conv => rhs; rw [← List.take_append_drop i l, List.flatMap_append, List.length_append]
  omega
/-- A number read: what it is, what is left; i bytes were read, they say u. -/
def rdF (i : Nat) (u : Int) : List UInt8 → Option (Int × List UInt8)
  | [] => none
  | c :: r =>
    if 9 ≤ (i : Int) ∨ (0 < (i : Int) ∧ (c.toNat : Int) = 0) then none
    else if (c.toNat : Int) < 128 then (if 4611686018427387904 < orU u (shlU ((c &&& b8 127).toNat : Int) (7 * (i : Int))) then none else some (orU u (shlU ((c &&& b8 127).toNat : Int) (7 * (i : Int))), r))
    else rdF (i + 1) (orU u (shlU ((c &&& b8 127).toNat : Int) (7 * (i : Int)))) r
def numV (l : List UInt8) : Int := match rdF 0 0 l with | none => 0 | some x => x.1
def numT (l : List UInt8) : List UInt8 := match rdF 0 0 l with | none => [] | some x => x.2
def numE (l : List UInt8) (b : Bool) : Bool := match rdF 0 0 l with | none => true | some _ => b
theorem num_none {l : List UInt8} (h : rdF 0 0 l = none) (b : Bool) : numV l = 0 ∧ numT l = [] ∧ numE l b = true := by unfold numV numT numE; rw [h]; simp
theorem num_some {l : List UInt8} {x : Int × List UInt8} (h : rdF 0 0 l = some x) (b : Bool) : numV l = x.1 ∧ numT l = x.2 ∧ numE l b = b := by unfold numV numT numE; rw [h]; simp
theorem noneV {l : List UInt8} (h : rdF 0 0 l = none) : 0 = numV l := (num_none h true).1.symm
theorem noneT {l : List UInt8} (h : rdF 0 0 l = none) : [] = numT l := (num_none h true).2.1.symm
theorem noneE {l : List UInt8} (h : rdF 0 0 l = none) {b : Bool} : true = numE l b := (num_none h b).2.2.symm
theorem someV {l : List UInt8} {u : Int} {r : List UInt8} (h : rdF 0 0 l = some (u, r)) : u = numV l := (num_some h true).1.symm
theorem someT {l : List UInt8} {u : Int} {r r' : List UInt8} (h : rdF 0 0 l = some (u, r)) (e : r' = r) : r' = numT l := e.trans (num_some h true).2.1.symm
theorem someE {l : List UInt8} {u : Int} {r : List UInt8} (h : rdF 0 0 l = some (u, r)) {b : Bool} : b = numE l b := (num_some h b).2.2.symm
theorem drop_at {l : List UInt8} {i : Nat} (h : i < l.length) : l.drop i = l.getD i 0 :: l.drop (i + 1) := by
  rw [List.drop_eq_getElem_cons h]; simp [List.getD, h]
theorem rd_end {l : List UInt8} {i : Nat} {u : Int} (h : ¬ i < l.length) : rdF i u (l.drop i) = none := by
  rw [List.drop_of_length_le (by omega)]; rfl
theorem rd_bad {l : List UInt8} {i : Nat} {u : Int} (h : i < l.length) (k : 9 ≤ (i : Int) ∨ (0 < (i : Int) ∧ ((l.getD i 0).toNat : Int) = 0)) : rdF i u (l.drop i) = none := by
  rw [drop_at h, rdF, if_pos k]
theorem rd_great {l : List UInt8} {i : Nat} {u : Int} (h : i < l.length) (k : ((l.getD i 0).toNat : Int) < 128) (g : 4611686018427387904 < orU u (shlU ((l.getD i 0 &&& b8 127).toNat : Int) (7 * (i : Int)))) : rdF i u (l.drop i) = none := by
  rw [drop_at h, rdF, if_pos k, if_pos g]; simp
theorem rd_good {l : List UInt8} {i : Nat} {u : Int} (h : i < l.length) (b : ¬ (9 ≤ (i : Int) ∨ (0 < (i : Int) ∧ ((l.getD i 0).toNat : Int) = 0))) (k : ((l.getD i 0).toNat : Int) < 128) (g : ¬ 4611686018427387904 < orU u (shlU ((l.getD i 0 &&& b8 127).toNat : Int) (7 * (i : Int)))) : rdF i u (l.drop i) = some (orU u (shlU ((l.getD i 0 &&& b8 127).toNat : Int) (7 * (i : Int))), l.drop (i + 1)) := by
  rw [drop_at h, rdF, if_neg b, if_pos k, if_neg g]
theorem rd_no {l : List UInt8} {i : Nat} {u : Int} (h : i < l.length) (k : (9 ≤ (i : Int) ∨ (0 < (i : Int) ∧ ((l.getD i 0).toNat : Int) = 0)) ∨ ((l.getD i 0).toNat : Int) < 128 ∧ 4611686018427387904 < orU u (shlU ((l.getD i 0 &&& b8 127).toNat : Int) (7 * (i : Int)))) : rdF i u (l.drop i) = none := by
  rcases k with k | ⟨k, g⟩
  · exact rd_bad h k
  · exact rd_great h k g
theorem rd_next {l : List UInt8} {i : Nat} {u : Int} (h : i < l.length) (b : ¬ (9 ≤ (i : Int) ∨ (0 < (i : Int) ∧ ((l.getD i 0).toNat : Int) = 0))) (k : ¬ ((l.getD i 0).toNat : Int) < 128) : rdF i u (l.drop i) = rdF (i + 1) (orU u (shlU ((l.getD i 0 &&& b8 127).toNat : Int) (7 * (i : Int)))) (l.drop (i + 1)) := by
  rw [drop_at h, rdF, if_neg b, if_neg k]
theorem orU_bd (m n : Int) : 0 ≤ orU m n ∧ orU m n < 18446744073709551616 := by
  unfold orU bitsOf
  dsimp only
  generalize (BitVec.ofInt IntKind.u64.bits m ||| BitVec.ofInt IntKind.u64.bits n) = b
  have hlt : b.toNat < 18446744073709551616 := b.isLt
  have e : IntKind.u64.wrap (b.toNat : Int) = (b.toNat : Int) := InK.u64 (by omega)
  rw [e]
  omega
theorem orU_nat {m n : Nat} (hm : m < 18446744073709551616) (hn : n < 18446744073709551616) : orU (m : Int) (n : Int) = ((m ||| n : Nat) : Int) := by
  unfold orU bitsOf
  dsimp only
  have h2 : IntKind.u64.bits = 64 := rfl
  have e : (BitVec.ofInt IntKind.u64.bits (m : Int) ||| BitVec.ofInt IntKind.u64.bits (n : Int)).toNat = m ||| n := by
    rw [BitVec.toNat_or, BitVec.toNat_ofInt, BitVec.toNat_ofInt, h2]
    congr 1 <;> omega
  rw [e]
  refine InK.u64 ?_
  have : m ||| n < 2 ^ 64 := Nat.or_lt_two_pow (by omega) (by omega)
  omega
theorem shlU_nat {m k : Nat} (h : m * 2 ^ k < 18446744073709551616) : shlU (m : Int) (k : Int) = ((m * 2 ^ k : Nat) : Int) := by
  unfold shlU
  have e : ((m : Int) * 2 ^ (k : Int).toNat) = ((m * 2 ^ k : Nat) : Int) := by
    rw [Int.toNat_natCast]; simp
  rw [e]
  exact InK.u64 (by omega)
/-- The tenth byte never does. -/
theorem or_high {u : Int} (hu : 0 ≤ u ∧ u < 18446744073709551616) : 4611686018427387904 < orU u (shlU 1 63) := by
  have h1 : shlU 1 63 = ((9223372036854775808 : Nat) : Int) := shlU_nat (m := 1) (k := 63) (by decide)
  obtain ⟨m, rfl⟩ : ∃ m : Nat, u = (m : Int) := ⟨u.toNat, by omega⟩
  rw [h1, orU_nat (by omega) (by decide)]
  have : 9223372036854775808 ≤ m ||| 9223372036854775808 := Nat.right_le_or
  omega
theorem or_nine {u i : Int} {c : UInt8} (hu : 0 ≤ u ∧ u < 18446744073709551616) : i = 9 → (c.toNat : Int) = 1 → 4611686018427387904 < orU u (shlU ((c &&& b8 127).toNat : Int) (7 * i)) := by
  rintro rfl hc
  have e : c = 1 := UInt8.toNat_inj.1 (by show c.toNat = 1; omega)
  subst e
  exact or_high hu
/-- The first n bytes. -/
def rawV (l : List UInt8) (n : Int) : List UInt8 := if n < 0 ∨ (l.length : Int) < n then [] else l.take n.toNat
def rawT (l : List UInt8) (n : Int) : List UInt8 := if n < 0 ∨ (l.length : Int) < n then [] else l.drop n.toNat
def rawE (l : List UInt8) (n : Int) (b : Bool) : Bool := if n < 0 ∨ (l.length : Int) < n then true else b
theorem raw_no {l : List UInt8} {n : Int} (h : n < 0 ∨ (l.length : Int) < n) (b : Bool) : rawV l n = [] ∧ rawT l n = [] ∧ rawE l n b = true := by unfold rawV rawT rawE; simp [h]
theorem raw_yes {l : List UInt8} {n : Int} (h : ¬ (n < 0 ∨ (l.length : Int) < n)) (b : Bool) : rawV l n = l.take n.toNat ∧ rawT l n = l.drop n.toNat ∧ rawE l n b = b := by unfold rawV rawT rawE; simp [h]
theorem raw_one {l : List UInt8} {i : Nat} (h : i < l.length) (b : Bool) : rawV (l.drop i) 1 = [l.getD i 0] ∧ rawT (l.drop i) 1 = l.drop (i + 1) ∧ rawE (l.drop i) 1 b = b := by
  obtain ⟨e1, e2, e3⟩ := raw_yes (l := l.drop i) (n := 1) (by rw [List.length_drop]; omega) b
  refine ⟨?_, ?_, e3⟩
  · rw [e1, drop_at h]; rfl
  · rw [e2, List.drop_drop]; rfl
theorem raw_end {l : List UInt8} {i : Nat} (h : ¬ i < l.length) (b : Bool) : rawV (l.drop i) 1 = [] ∧ rawT (l.drop i) 1 = [] ∧ rawE (l.drop i) 1 b = true := raw_no (by rw [List.length_drop]; omega) b
theorem rdF_len (l : List UInt8) : ∀ (i : Nat) (u : Int) (x : Int × List UInt8), rdF i u l = some x → x.2.length < l.length := by
  induction l with
  | nil => intro i u x h; simp [rdF] at h
  | cons c r ih =>
    intro i u x h
    rw [rdF] at h
    split at h
    · cases h
    split at h
    · split at h
      · cases h
      · cases h; simp
    · have := ih _ _ _ h; simp; omega
theorem numT_len (l : List UInt8) : (numT l).length ≤ l.length := by
  unfold numT
  cases h : rdF 0 0 l with
  | none => simp
  | some x => have := rdF_len l 0 0 x h; simp; omega
theorem numE_nil {l : List UInt8} {b : Bool} (hb : b = true → l = []) : numE l b = true → numT l = [] := by
  unfold numE numT
  cases h : rdF 0 0 l with
  | none => simp
  | some x =>
    dsimp only
    intro h2
    have := rdF_len l 0 0 x h
    rw [hb h2] at this
    simp at this
theorem numV_of {l : List UInt8} {b : Bool} (h : numE l b = true) (hb : b = true → l = []) : numV l = 0 := by
  unfold numE at h
  unfold numV
  cases h2 : rdF 0 0 l with
  | none => rfl
  | some x =>
    rw [h2] at h
    dsimp only at h
    have := rdF_len l 0 0 x h2
    rw [hb h] at this
    simp at this
theorem raw_nil : rawV [] 0 = [] ∧ rawT [] 0 = [] ∧ ∀ b, rawE [] 0 b = b := by
  refine ⟨?_, ?_, fun b => ?_⟩ <;> simp [rawV, rawT, rawE]
theorem rawT_len (l : List UInt8) (n : Int) : (rawT l n).length ≤ l.length := by unfold rawT; split <;> simp
theorem rawE_nil {l : List UInt8} {n : Int} {b : Bool} (hb : b = true → l = []) : rawE l n b = true → rawT l n = [] := by
  unfold rawE rawT
  split
  · simp
  · intro h; rw [hb h]; simp
def bytV (l : List UInt8) : List UInt8 := rawV (numT l) (numV l)
def bytT (l : List UInt8) : List UInt8 := rawT (numT l) (numV l)
def bytE (l : List UInt8) (b : Bool) : Bool := rawE (numT l) (numV l) (numE l b)
end Go.Oct
set_option linter.unusedVariables false
namespace Go.Oct
open Go.Vk
theorem or_add {m n k : Nat} (h : m < 2 ^ k) : m ||| (n * 2 ^ k) = m + n * 2 ^ k := by
  have := Nat.two_pow_add_eq_or_of_lt h n
  rw [Nat.mul_comm (2 ^ k) n] at this
  rw [Nat.or_comm, ← this, Nat.add_comm]
theorem pow7_le {i : Nat} (h : i ≤ 8) : 2 ^ (7 * i) ≤ 72057594037927936 := by
  calc 2 ^ (7 * i) ≤ 2 ^ 56 := Nat.pow_le_pow_right (by decide) (by omega)
    _ = 72057594037927936 := by decide
theorem pow7_ge {i : Nat} (h : 9 ≤ i) : 9223372036854775808 ≤ 2 ^ (7 * i) := by
  calc 9223372036854775808 = 2 ^ 63 := by decide
    _ ≤ 2 ^ (7 * i) := Nat.pow_le_pow_right (by decide) (by omega)
theorem digit_lo : ∀ i : Fin 128, ((b8 (i.val : Int) &&& b8 127).toNat = i.val) ∧ (b8 (i.val : Int)).toNat = i.val := by decide +kernel
theorem digit_hi : ∀ i : Fin 256, (((b8 (i.val : Int) ||| b8 128) &&& b8 127).toNat = i.val % 128) ∧ 128 ≤ (b8 (i.val : Int) ||| b8 128).toNat := by decide +kernel
theorem digit_hi' (n : Nat) : (((b8 (n : Int) ||| b8 128) &&& b8 127).toNat = n % 128) ∧ 128 ≤ (b8 (n : Int) ||| b8 128).toNat := by
  have h := digit_hi ⟨n % 256, by omega⟩
  have e2 : b8 ((n % 256 : Nat) : Int) = b8 (n : Int) := by
    rw [show ((n % 256 : Nat) : Int) = (n : Int) % 256 by omega, b8_mod]
  simp only [e2] at h
  exact ⟨by rw [h.1]; omega, h.2⟩
/-- A number that was laid is read. -/
theorem rdF_numB (n : Nat) : ∀ (i m : Nat) (r : List UInt8), m < 2 ^ (7 * i) → m + n * 2 ^ (7 * i) ≤ 4611686018427387904 → (0 < i → 0 < n) → rdF i (m : Int) (numB n ++ r) = some (((m + n * 2 ^ (7 * i) : Nat) : Int), r) := by
  induction n using Nat.strongRecOn with
  | _ n ih =>
    intro i m r hm hb hn
    have hi : i ≤ 8 := by
      by_cases h0 : 0 < i
      · have := hn h0
        by_cases h9 : 9 ≤ i
        · have h1 := pow7_ge h9
          have h2 : 1 * 2 ^ (7 * i) ≤ n * 2 ^ (7 * i) := Nat.mul_le_mul_right _ this
          omega
        · omega
      · omega
    have hp := pow7_le hi
    by_cases hlt : n < 128
    · rw [numB_lt hlt]
      obtain ⟨d1, d2⟩ := digit_lo ⟨n, hlt⟩
      dsimp only at d1 d2
      have e : orU (m : Int) (shlU ((b8 (n : Int) &&& b8 127).toNat : Int) (7 * (i : Int))) = ((m + n * 2 ^ (7 * i) : Nat) : Int) := by
        rw [d1, show (7 * (i : Int)) = ((7 * i : Nat) : Int) by omega, shlU_nat (by omega), orU_nat (by omega) (by omega), or_add hm]
      rw [List.singleton_append, rdF, e, if_neg (by omega), if_pos (by omega), if_neg (by omega)]
    · rw [numB_ge hlt]
      obtain ⟨d1, d2⟩ := digit_hi' n
      have e2 : m + n * 2 ^ (7 * i) = (m + n % 128 * 2 ^ (7 * i)) + n / 128 * 2 ^ (7 * (i + 1)) := by
        have h1 : 2 ^ (7 * (i + 1)) = 128 * 2 ^ (7 * i) := by
          rw [show 7 * (i + 1) = 7 + 7 * i by omega, Nat.pow_add]
        have h2 : n = n % 128 + n / 128 * 128 := by omega
        rw [h1, ← Nat.mul_assoc, Nat.add_assoc, ← Nat.add_mul, ← h2]
      have hm' : m + n % 128 * 2 ^ (7 * i) < 2 ^ (7 * (i + 1)) := by
        have h1 : 2 ^ (7 * (i + 1)) = 128 * 2 ^ (7 * i) := by
          rw [show 7 * (i + 1) = 7 + 7 * i by omega, Nat.pow_add]
        have h3 : n % 128 * 2 ^ (7 * i) ≤ 127 * 2 ^ (7 * i) := Nat.mul_le_mul_right _ (by omega)
        omega
      have e : orU (m : Int) (shlU (((b8 (n : Int) ||| b8 128) &&& b8 127).toNat : Int) (7 * (i : Int))) = ((m + n % 128 * 2 ^ (7 * i) : Nat) : Int) := by
        rw [d1, show (7 * (i : Int)) = ((7 * i : Nat) : Int) by omega, shlU_nat (by omega), orU_nat (by omega) (by omega), or_add hm]
      rw [List.cons_append, rdF, e, if_neg (by omega), if_neg (by omega), e2]
      exact ih (n / 128) (by omega) (i + 1) _ r hm' (by omega) (fun _ => by omega)
theorem rd_numB {n : Nat} (h : n ≤ 4611686018427387904) (r : List UInt8) : rdF 0 0 (numB n ++ r) = some ((n : Int), r) := by
  have := rdF_numB n 0 0 r (by decide) (by simpa using h) (fun h => by omega)
  simpa using this
theorem num_numB {n : Nat} (h : n ≤ 4611686018427387904) (r : List UInt8) : numV (numB n ++ r) = n ∧ numT (numB n ++ r) = r ∧ ∀ b, numE (numB n ++ r) b = b :=
  ⟨(num_some (rd_numB h r) true).1, (num_some (rd_numB h r) true).2.1, fun b => (num_some (rd_numB h r) b).2.2⟩
theorem byt_bytB {l : List UInt8} (h : l.length ≤ 4611686018427387904) (r : List UInt8) : bytV (bytB l ++ r) = l ∧ bytT (bytB l ++ r) = r ∧ ∀ b, bytE (bytB l ++ r) b = b := by
  obtain ⟨h1, h2, h3⟩ := num_numB h (l ++ r)
  unfold bytV bytT bytE bytB
  rw [List.append_assoc, h1, h2]
  have hno : ¬ ((l.length : Int) < 0 ∨ ((l ++ r).length : Int) < (l.length : Int)) := by rw [List.length_append]; omega
  refine ⟨?_, ?_, fun b => ?_⟩
  · rw [(raw_yes hno true).1]; simp
  · rw [(raw_yes hno true).2.1]; simp
  · rw [h3, (raw_yes hno b).2.2]
/-! ### rows -/
section
variable {σ α : Type}
/-- Rows are read one behind the other, so long as none is bad; fuel. -/
def loopD (step : σ → α × σ) (bad : σ → Bool) (n : Int) : Nat → List α → σ → List α × σ
  | 0, acc, s => (acc, s)
  | k + 1, acc, s => if (acc.length : Int) < n ∧ bad s = false then loopD step bad n k (acc ++ [(step s).1]) (step s).2 else (acc, s)
/-- Each row takes something, or is bad. -/
structure Eats (step : σ → α × σ) (bad : σ → Bool) (m : σ → Nat) : Prop where
  eat : ∀ s, bad s = false → bad (step s).2 = true ∨ m (step s).2 < m s
variable {step : σ → α × σ} {bad : σ → Bool} {m : σ → Nat}
theorem loopD_bad {n : Int} {k : Nat} {acc : List α} {s : σ} (h : bad s = true) : loopD step bad n k acc s = (acc, s) := by
  cases k with
  | zero => rfl
  | succ k => rw [loopD, if_neg (by rw [h]; simp)]
theorem loopD_fuel (he : Eats step bad m) {n : Int} : ∀ (k k' : Nat) (acc : List α) (s : σ), m s < k → m s < k' → loopD step bad n k acc s = loopD step bad n k' acc s
  | 0, k', acc, s, h, _ => by omega
  | k + 1, 0, acc, s, _, h => by omega
  | k + 1, k' + 1, acc, s, h, h' => by
    rw [loopD, loopD]
    split
    · rename_i hc
      rcases he.eat s hc.2 with hb | hlt
      · rw [loopD_bad hb, loopD_bad hb]
      · exact loopD_fuel he k k' _ _ (by omega) (by omega)
    · rfl
def rows (step : σ → α × σ) (bad : σ → Bool) (m : σ → Nat) (n : Int) (acc : List α) (s : σ) : List α × σ := loopD step bad n (m s + 1) acc s
theorem rows_go (he : Eats step bad m) {n : Int} {acc : List α} {s : σ} (h1 : (acc.length : Int) < n) (h2 : bad s = false) : rows step bad m n acc s = rows step bad m n (acc ++ [(step s).1]) (step s).2 := by
  unfold rows
  rw [loopD, if_pos ⟨h1, h2⟩]
  rcases he.eat s h2 with hb | hlt
  · rw [loopD_bad hb, loopD_bad hb]
  · exact loopD_fuel he _ _ _ _ (by omega) (by omega)
theorem rows_end {n : Int} {acc : List α} {s : σ} (h : ¬ ((acc.length : Int) < n ∧ bad s = false)) : rows step bad m n acc s = (acc, s) := by
  unfold rows
  rw [loopD, if_neg h]
theorem rows_end1 {n : Int} {acc : List α} {s : σ} (h : ¬ (acc.length : Int) < n) : rows step bad m n acc s = (acc, s) := rows_end (fun x => h x.1)
theorem rows_end2 {n : Int} {acc : List α} {s : σ} (h : bad s = true) : rows step bad m n acc s = (acc, s) := rows_end (fun x => by rw [h] at x; cases x.2)
/-- What was laid row by row is read. -/
theorem rows_back (he : Eats step bad m) (enc : α → List UInt8) (mk : List UInt8 → σ) (hgood : ∀ l, bad (mk l) = false) : ∀ (xs : List α) (acc : List α) (r : List UInt8) (n : Int), (∀ x ∈ xs, ∀ r, step (mk (enc x ++ r)) = (x, mk r)) → n = ((acc ++ xs).length : Int) → rows step bad m n acc (mk (xs.flatMap enc ++ r)) = (acc ++ xs, mk r)
  | [], acc, r, n, _, hn => by
    rw [rows_end1 (by rw [hn]; simp)]
    simp
  | x :: xs, acc, r, n, hx, hn => by
    rw [rows_go he (by rw [hn]; simp; omega) (hgood _)]
    rw [List.flatMap_cons, List.append_assoc, hx x (by simp)]
    have := rows_back he enc mk hgood xs (acc ++ [x]) r n (fun y hy => hx y (by simp [hy])) (by rw [hn]; simp)
    rw [this]
    simp
end
/-- A reader's state: what is left, whether it erred. -/
abbrev RS := List UInt8 × Bool
def badS (s : RS) : Bool := s.2
def lenS (s : RS) : Nat := s.1.length
theorem numT_lt {l : List UInt8} {b : Bool} (h : numE l b = false) : (numT l).length < l.length := by
  unfold numE at h
  unfold numT
  cases h2 : rdF 0 0 l with
  | none => rw [h2] at h; cases h
  | some x => exact rdF_len l 0 0 x h2
theorem bytT_le (l : List UInt8) : (bytT l).length ≤ l.length := Nat.le_trans (rawT_len _ _) (numT_len l)
theorem rawV_len (l : List UInt8) (n : Int) : (rawV l n).length ≤ l.length := by
  unfold rawV; split
  · simp
  · rw [List.length_take]; omega
theorem bytV_le (l : List UInt8) : (bytV l).length ≤ l.length := Nat.le_trans (rawV_len _ _) (numT_len l)
theorem bytE_b {l : List UInt8} {b : Bool} (h : bytE l b = false) : numE l b = false := by
  unfold bytE rawE at h
  split at h
  · cases h
  · exact h
theorem bytT_lt {l : List UInt8} {b : Bool} (h : bytE l b = false) : (bytT l).length < l.length := Nat.lt_of_le_of_lt (rawT_len _ _) (numT_lt (bytE_b h))
theorem bytE_nil {l : List UInt8} {b : Bool} (hb : b = true → l = []) : bytE l b = true → bytT l = [] := rawE_nil (numE_nil hb)
theorem numE_true {l : List UInt8} : numE l true = true := by
  unfold numE; split <;> rfl
theorem bytE_true {l : List UInt8} : bytE l true = true := by
  unfold bytE rawE; split
  · rfl
  · exact numE_true
/-- How many rounds are left at most. -/
def leftN (s : RS) : Nat := if s.2 = true then 0 else s.1.length + 1
/-- So many rows were read of n bytes. -/
structure Left (n k : Nat) (s : RS) : Prop where
  bl : s.1.length ≤ n
  sum : k + leftN s ≤ n + 1
theorem Left.start {n : Nat} {s : RS} (h : s.1.length ≤ n) : Left n 0 s := ⟨h, by unfold leftN; split <;> omega⟩
theorem Left.bd {n k : Nat} {s : RS} (h : Left n k s) : k ≤ n + 1 := by have := h.sum; omega
theorem Left.next {n k : Nat} {s s' : RS} (h : Left n k s) (hb : s.2 = false) (he : s'.2 = true ∨ s'.1.length < s.1.length) (hl : s'.1.length ≤ s.1.length) : Left n (k + 1) s' ∧ leftN s' < leftN s := by
  have h1 := h.bl
  have h2 := h.sum
  have h3 : leftN s = s.1.length + 1 := by unfold leftN; rw [hb]; simp
  have h4 : leftN s' < leftN s := by
    rw [h3]; unfold leftN
    split
    · omega
    · rcases he with he | he
      · contradiction
      · omega
  exact ⟨⟨by omega, by omega⟩, h4⟩
def stepB (s : RS) : List UInt8 × RS := (bytV s.1, (bytT s.1, bytE s.1 s.2))
theorem eatsB : Eats stepB badS lenS := ⟨fun s _ => by
  cases h : bytE s.1 s.2 with
  | true => exact .inl h
  | false => exact .inr (bytT_lt h)⟩
end Go.Oct
