/-
  Owned slices (literals, append), contracts out of code. Nothing here speaks of a program; no conditions.
-/
import Derived.Test.YtphakclfahianaaDoorGaa
set_option linter.unusedSimpArgs false
set_option linter.unusedVariables false
set_option linter.unusedVariables false
namespace Go.Vk

/-! ### new blocks -/
/-- A new block of cells joins the persistent heap. -/
def Imm.add (G : Imm) (g : Nat) (cs : List Value) : Imm := fun b o => if b = g then cs[o]? else G b o

theorem heap_new (w : World) (o : Obj) : (w.alloc o).heap[w.heap.size]? = some o := by
  show (w.heap.push o)[w.heap.size]? = _
  simp
theorem set_self {α : Type} {L : List α} {i : Nat} {r : α} (h : L[i]? = some r) : L.set i r = L := by
  apply List.ext_getElem?
  intro j
  rw [List.getElem?_set]
  split
  · subst i
    have := (List.getElem?_eq_some_iff.1 h).1
    rw [if_pos this, h]
  · rfl
theorem Ext.new {G : Imm} {w : World} (hs : Sat G w) (vs : List Value) (o : Obj) (ho : ∀ (j : Nat) (v : Value), vs[j]? = some v → (w.alloc o).cell? ⟨w.heap.size, j, none⟩ = some v) (w1 : World) (h1 : w1.heap = (w.alloc o).heap) (h2 : w1.os = w.os) (h3 : w1.tape = w.tape) (h4 : w1.output = w.output) : Ext noZ G w (Imm.add G w.heap.size vs) w1 := by
  have hcell : ∀ a, w1.cell? a = (w.alloc o).cell? a := fun a => by simp [World.cell?, h1]
  have hold : ∀ b, b < w.heap.size → (w.alloc o).heap[b]? = w.heap[b]? := fun b hb => RowKit.Below.heap_alloc w o b hb
  refine ⟨?_, ?_, h2, h3, h4, by rw [h1]; simp, ?_⟩
  · intro b oo v hb
    rw [hcell]
    unfold Imm.add at hb
    split at hb
    · subst b; exact ho _ _ hb
    · have hlt := hs.lt hb
      have := hs _ _ _ hb
      simp only [World.cell?] at this ⊢
      rw [hold b hlt]; exact this
  · intro b oo v hb
    unfold Imm.add
    have := hs.lt hb
    rw [if_neg (by omega)]; exact hb
  · intro b hb _
    refine ⟨by rw [h1]; exact hold b hb, fun oo => ?_⟩
    unfold Imm.add
    rw [if_neg (by omega)]

/-! ### cells of values -/
/-- What a value of type T is, cell by cell. -/
def CellsOf (T : Ty) (ts : List Ty) : Prop := ∀ G v, T.p G v → v.cells.toList.length = ts.length ∧ ∀ (j : Nat) (U : Ty) (u : Value), ts[j]? = some U → v.cells.toList[j]? = some u → U.p G u ∧ u.oneCell' = true
theorem CellsOf.agg (ts : List Ty) : CellsOf (TAgg ts) ts := by
  rintro G v ⟨vs, rfl, hl, h⟩
  refine ⟨by simpa [Value.cells] using hl, ?_⟩
  intro j U u h1 h2
  exact h j U u h1 (by simpa [Value.cells] using h2)
theorem CellsOf.one {T : Ty} (h : ∀ G v, T.p G v → v.oneCell' = true ∧ v.cells = #[v]) : CellsOf T [T] := by
  intro G v hv
  obtain ⟨h1, h2⟩ := h G v hv
  rw [h2]
  refine ⟨rfl, ?_⟩
  intro j U u e1 e2
  cases j with
  | zero => simp at e1 e2; subst e1; subst e2; exact ⟨hv, h1⟩
  | succ j => simp at e1
theorem CellsOf.is {v : Value} (h1 : v.oneCell' = true) (h2 : v.cells = #[v]) : CellsOf (Is v) [Is v] := .one fun G x hx => by cases hx; exact ⟨h1, h2⟩
theorem CellsOf.sl {α : Type} (sz : Nat) (f : α → List Ty) (l : List α) : CellsOf (TSl sz f l) [TSl sz f l] := .one fun G v ⟨a, cap, e, _⟩ => by subst e; exact ⟨rfl, rfl⟩
theorem CellsOf.slx {α : Type} (sz : Nat) (f : α → List Ty) (l : List α) : CellsOf (TSlX sz f l) [TSl sz f l] := by
  intro G v h
  exact CellsOf.sl sz f l G v (TSlX.sl h)
theorem CellsOf.andR {T U : Ty} {ts : List Ty} (h : CellsOf U ts) : CellsOf (TAnd T U) ts := fun G v hv => h G v hv.2
theorem CellsOf.byte (c : UInt8) : CellsOf (Is (.int .u8 (c.toNat : Int))) (cB c) := .is rfl rfl
theorem CellsOf.strc (l : List UInt8) : CellsOf (Is (str l)) (cS l) := .is rfl rfl
theorem CellsOf.int (n : Int) : CellsOf (okI .i64 n) (cI n) := .is rfl rfl

/-- The values of some elements, laid side by side. -/
theorem sl_values {α : Type} {sz : Nat} {f : α → List Ty} {l : List α} {G : Imm} {b o : Nat} (h : ∀ (i : Nat) (y : α), l[i]? = some y → (f y).length = sz ∧ CellsP G b (o + i * sz) (f y)) :
    ∃ vs : List Value, vs.length = l.length * sz ∧ (∀ (j : Nat) (u : Value), vs[j]? = some u → G b (o + j) = some u ∧ u.oneCell' = true) ∧
      ∀ (i : Nat) (y : α), l[i]? = some y → ∀ (j : Nat) (T : Ty), (f y)[j]? = some T → ∃ u, vs[i * sz + j]? = some u ∧ T.p G u ∧ u.oneCell' = true := by
  have key : ∀ k, k < l.length * sz → ∃ u, G b (o + k) = some u ∧ u.oneCell' = true := by
    intro k hk
    have hsz : 0 < sz := by
      rcases Nat.eq_zero_or_pos sz with h0 | h0
      · subst h0; simp at hk
      · exact h0
    have hi : k / sz < l.length := Nat.div_lt_of_lt_mul (by rw [Nat.mul_comm]; exact hk)
    obtain ⟨h1, h2⟩ := h (k / sz) _ (List.getElem?_eq_getElem hi)
    have hj : k % sz < (f l[k / sz]).length := by rw [h1]; exact Nat.mod_lt _ hsz
    obtain ⟨u, h3, _, h5⟩ := h2 (k % sz) _ (List.getElem?_eq_getElem hj)
    refine ⟨u, ?_, h5⟩
    rw [← h3]
    congr 1
    have := Nat.div_add_mod k sz
    rw [Nat.mul_comm] at this
    omega
  have hex : ∀ n, n ≤ l.length * sz → ∃ vs : List Value, vs.length = n ∧ ∀ (j : Nat) (u : Value), vs[j]? = some u → G b (o + j) = some u ∧ u.oneCell' = true := by
    intro n
    induction n with
    | zero => intro _; exact ⟨[], rfl, by simp⟩
    | succ n ih =>
      intro hn
      obtain ⟨vs, h1, h2⟩ := ih (by omega)
      obtain ⟨u, h3, h4⟩ := key n (by omega)
      refine ⟨vs ++ [u], by simp [h1], ?_⟩
      intro j u' e
      rw [List.getElem?_append] at e
      split at e
      · exact h2 j u' e
      · rename_i hlt
        have hj : j = vs.length := by
          have := (List.getElem?_eq_some_iff.1 e).1
          simp at this; omega
        subst hj
        simp at e; subst e
        rw [h1]; exact ⟨h3, h4⟩
  obtain ⟨vs, h1, h2⟩ := hex _ (Nat.le_refl _)
  refine ⟨vs, h1, h2, ?_⟩
  intro i y hy j T hT
  obtain ⟨g1, g2⟩ := h i y hy
  obtain ⟨u, g3, g4, g5⟩ := g2 j T hT
  have hil := (List.getElem?_eq_some_iff.1 hy).1
  have hjl := (List.getElem?_eq_some_iff.1 hT).1
  have hlt : i * sz + j < vs.length := by
    rw [h1]
    have : (i + 1) * sz ≤ l.length * sz := Nat.mul_le_mul_right _ hil
    rw [Nat.add_mul] at this
    omega
  have h3 := h2 _ _ (List.getElem?_eq_getElem hlt)
  have : some vs[i * sz + j] = some u := by rw [← h3.1, ← g3]; congr 1; omega
  refine ⟨u, ?_, g4, g5⟩
  rw [List.getElem?_eq_getElem hlt, this]

/-- A slice at the head of a block that holds the values. -/
theorem sl_of_values {α : Type} {sz : Nat} {f : α → List Ty} {l : List α} {G : Imm} {g cap : Nat} {x : Bool} {vs : List Value} (hc : l.length ≤ cap) (hm : cap ≤ maxLen) (hx : x = true → cap = l.length) (hf : ∀ y ∈ l, (f y).length = sz)
    (hv : ∀ (i : Nat) (y : α), l[i]? = some y → ∀ (j : Nat) (T : Ty), (f y)[j]? = some T → ∃ u, vs[i * sz + j]? = some u ∧ T.p G u ∧ u.oneCell' = true)
    (hG : ∀ (j : Nat) (u : Value), vs[j]? = some u → G g j = some u) : SlP x sz f l G (.slice (some ⟨g, 0, none⟩) l.length cap) := by
  refine ⟨_, cap, rfl, hc, hm, hx, (fun e => by cases e), fun ad e => ?_⟩
  cases e
  refine ⟨fun _ => rfl, fun i y hy => ⟨hf y (List.mem_of_getElem? hy), fun j T hT => ?_⟩⟩
  obtain ⟨u, h1, h2, h3⟩ := hv i y hy j T hT
  exact ⟨u, by have := hG _ _ h1; rw [← this]; congr 1; simp, h2, h3⟩

/-! ### an owned slice -/
/-- The slice v is this call's own: behind its length its block is free. -/
def ownSl (v : Value) (sz : Nat) (e : TypeId) : Res where
  p S G w := (v = .slice none 0 0 ∧ ∀ b, ¬ S b) ∨ ∃ g n cap cs, v = .slice (some ⟨g, 0, none⟩) n cap ∧ (∀ b, S b ↔ b = g) ∧ w.heap[g]? = some (.cells cs e (0, 0)) ∧ n ≤ cap ∧ cap ≤ maxLen ∧ cs.size = cap * sz ∧ ∀ o, n * sz ≤ o → G g o = none
  loc := by
    rintro S G w G' w' h hle hb
    rcases h with h | ⟨g, n, cap, cs, h1, h2, h3, h4, h5, h6, h7⟩
    · exact .inl h
    · obtain ⟨e1, e2⟩ := hb g ((h2 g).2 rfl)
      exact .inr ⟨g, n, cap, cs, h1, h2, by rw [e1]; exact h3, h4, h5, h6, fun o ho => by rw [e2]; exact h7 o ho⟩
def empR : Res where
  p _ _ _ := True
  loc := fun _ _ _ => trivial

/-- One resource is put in another's place; its blocks are its old ones, or new. -/
theorem Owns.set {S : Nat → Nat → Prop} {L : List Res} {Z : Nat → Prop} {G G' : Imm} {w w' : World} (h : Owns S L G w) (k : Ext Z G w G' w') {i : Nat} (hi : i < L.length) (hz : ∀ b, Z b → S i b) (r : Res) (T : Nat → Prop) (hT : ∀ b, T b → (S i b ∨ w.heap.size ≤ b) ∧ b < w'.heap.size) (hr : r.p T G' w') :
    Owns (fun j b => if j = i then T b else S j b) (L.set i r) G' w' := by
  refine ⟨?_, ?_, ?_, ?_⟩
  · intro j b hb
    by_cases hj : j = i
    · simp only [hj, if_true] at hb; exact (hT b hb).2
    · simp only [hj, if_false] at hb; exact Nat.lt_of_lt_of_le (h.bound j b hb) k.size
  · intro j j' b hb hb'
    by_cases hj : j = i <;> by_cases hj' : j' = i
    · omega
    · simp only [hj, if_true] at hb; simp only [hj', if_false] at hb'
      rcases (hT b hb).1 with h1 | h1
      · exact absurd (h.disj _ _ b hb' h1) hj'
      · have := h.bound j' b hb'; omega
    · simp only [hj, if_false] at hb; simp only [hj', if_true] at hb'
      rcases (hT b hb').1 with h1 | h1
      · exact absurd (h.disj _ _ b hb h1) hj
      · have := h.bound j b hb; omega
    · simp only [hj, if_false] at hb; simp only [hj', if_false] at hb'; exact h.disj _ _ b hb hb'
  · intro j b hb
    by_cases hj : j = i
    · simp [hj, hi]
    · simp only [hj, if_false] at hb; simpa using h.inL j b hb
  · intro j r' hr'
    rw [List.getElem?_set] at hr'
    by_cases hj : i = j
    · subst hj
      simp only [hi, if_true, Option.some.injEq] at hr'
      subst hr'
      simpa using hr
    · rw [if_neg hj] at hr'
      have hj' : ¬ j = i := fun e => hj e.symm
      simp only [hj', if_false]
      exact r'.loc (h.res j r' hr') k.le (fun b hb => k.blk b (h.bound j b hb) (fun hzb => hj' (h.disj _ _ b hb (hz b hzb))))

/-- One resource more. -/
theorem Owns.snoc {S : Nat → Nat → Prop} {L : List Res} {G G' : Imm} {w w' : World} (h : Owns S L G w) (k : Ext noZ G w G' w') (r : Res) (T : Nat → Prop) (hT : ∀ b, T b → w.heap.size ≤ b ∧ b < w'.heap.size) (hr : r.p T G' w') :
    Owns (fun j b => if j = L.length then T b else S j b) (L ++ [r]) G' w' := by
  have h' := h.ext k (fun _ _ _ z => z)
  refine ⟨?_, ?_, ?_, ?_⟩
  · intro j b hb
    by_cases hj : j = L.length
    · simp only [hj, if_true] at hb; exact (hT b hb).2
    · simp only [hj, if_false] at hb; exact h'.bound j b hb
  · intro j j' b hb hb'
    by_cases hj : j = L.length <;> by_cases hj' : j' = L.length
    · omega
    · simp only [hj, if_true] at hb; simp only [hj', if_false] at hb'
      have := h.bound j' b hb'; have := (hT b hb).1; omega
    · simp only [hj, if_false] at hb; simp only [hj', if_true] at hb'
      have := h.bound j b hb; have := (hT b hb').1; omega
    · simp only [hj, if_false] at hb; simp only [hj', if_false] at hb'; exact h.disj _ _ b hb hb'
  · intro j b hb
    by_cases hj : j = L.length
    · simp [hj]
    · simp only [hj, if_false] at hb; have := h.inL j b hb; simp; omega
  · intro j r' hr'
    by_cases hj : j = L.length
    · subst hj; simp at hr'; subst hr'; simpa using hr
    · have hlt : j < L.length := by have := (List.getElem?_eq_some_iff.1 hr').1; simp at this; omega
      rw [List.getElem?_append_left hlt] at hr'
      simp only [hj, if_false]; exact h'.res j r' hr'

section
variable {P : Program} {L : List Res} {E : Env} {dst : Option Tmp} {ty : TypeId} {pos : String} {after : Array Edge} {gd : Option (Nat × Bool)}

/-- A row that has just been laid. -/
theorem fresh_sl {α : Type} {sz : Nat} {f : α → List Ty} {l : List α} {G : Imm} {w w1 : World} {e : TypeId} {cells : Array Value} {fr : Nat × Nat} {vs : List Value} {cap : Nat} (hs : Sat G w) (h1 : w1.heap = (w.alloc (.cells cells e fr)).heap) (h2 : w1.os = w.os) (h3 : w1.tape = w.tape) (h4 : w1.output = w.output)
    (hvs : cells.toList.take vs.length = vs) (hc : l.length ≤ cap) (hm : cap ≤ maxLen) (hvl : vs.length = l.length * sz) (hf : ∀ y ∈ l, (f y).length = sz)
    (hT : ∀ (i : Nat) (y : α), l[i]? = some y → ∀ (j : Nat) (T : Ty), (f y)[j]? = some T → ∃ u, vs[i * sz + j]? = some u ∧ T.p G u ∧ u.oneCell' = true) :
    Ext noZ G w (Imm.add G w.heap.size vs) w1 ∧ (∀ x, (x = true → cap = l.length) → SlP x sz f l (Imm.add G w.heap.size vs) (.slice (some ⟨w.heap.size, 0, none⟩) l.length cap)) ∧
      (cells.size = cap * sz → fr = (0, 0) → (ownSl (.slice (some ⟨w.heap.size, 0, none⟩) l.length cap) sz e).p (fun b => b = w.heap.size) (Imm.add G w.heap.size vs) w1) := by
  have hnew : w1.heap[w.heap.size]? = some (.cells cells e fr) := by rw [h1]; exact heap_new w _
  have hext := Ext.new hs vs (.cells cells e fr) (fun j v hj => by
    have e1 : (w.alloc (.cells cells e fr)).heap[w.heap.size]? = some (.cells cells e fr) := heap_new w _
    simp only [World.cell?, e1]
    have h := congrArg (fun q => q[j]?) hvs
    simp only [List.getElem?_take, hj] at h
    split at h
    · simpa using h
    · cases h) w1 h1 h2 h3 h4
  refine ⟨hext, ?_, ?_⟩
  · intro x hx
    refine sl_of_values (vs := vs) hc hm hx hf ?_ ?_
    · intro i y hy j T hT'
      obtain ⟨u, g1, g2, g3⟩ := hT i y hy j T hT'
      exact ⟨u, g1, T.mono hext.le g2, g3⟩
    · intro j u hj
      unfold Imm.add; rw [if_pos rfl]; exact hj
  · intro hcs hfr
    subst hfr
    refine .inr ⟨w.heap.size, l.length, cap, cells, rfl, fun b => Iff.rfl, hnew, hc, hm, hcs, fun o ho => ?_⟩
    unfold Imm.add; rw [if_pos rfl]
    exact List.getElem?_eq_none (by rw [hvl]; exact ho)

/-- append onto a slice of one's own. -/
theorem run_append_res {α : Type} {sz by_ : Nat} {f : α → List Ty} {l m : List α} {t tyy e : TypeId} {z : Value} (hu : P.underlying t = some (.slice e)) (hinf : (P.info? e).map (fun i => (i.zero, i.size, i.bytes)) = some (some z, sz, by_)) (hz : z.cells.size = sz)
    {S : Nat → Nat → Prop} {G : Imm} {w : World} (hs : Sat G w) (ho : Owns S L G w) {v x : Value} {i : Nat} (hL : L[i]? = some (ownSl v sz e)) (hv : (TSl sz f l).p G v) (hx : (TSl sz f m).p G x) (hb : (l.length + m.length) * by_ ≤ 140737488355328) (hm : l.length + m.length ≤ maxLen) :
    ∃ v' w' G' S', (Builtin.append_ #[t, t] tyy #[v, x]).run P w = .ok v' w' ∧ Ext (fun b => ∃ i, S i b) G w G' w' ∧ Owns S' (L.set i (ownSl v' sz e)) G' w' ∧ (∀ i b, S' i b → w.heap.size ≤ b ∨ ∃ j, S j b) ∧ (TSl sz f (l ++ m)).p G' v' := by
  obtain ⟨inf, hi, hiz, his, hib⟩ := info_parts hinf
  have hiL : i < L.length := (List.getElem?_eq_some_iff.1 hL).1
  have hres := ho.res i _ hL
  obtain ⟨av, capv, ev, hlcv, hcmv, -, hnilv, hadv⟩ := hv
  obtain ⟨ax, capx, ex, hlcx, hcmx, -, hnilx, hadx⟩ := hx
  cases ax with
  | none =>
    have hm0 : m = [] := List.eq_nil_of_length_eq_zero (by have := hnilx rfl; omega)
    have hc0 : capx = 0 := hnilx rfl
    subst hm0
    subst hc0
    rw [List.append_nil]
    refine ⟨v, w, G, S, ?_, Ext.refl hs, ?_, fun i b h => .inr ⟨i, h⟩, ⟨av, capv, ev, hlcv, hcmv, (fun e => by cases e), hnilv, hadv⟩⟩
    · subst ev ex
      cases av <;> simp [Builtin.append_, run_underlying hu, sizeOf, typeInfo, hi, Builtin.lenOf, Builtin.firstCells, hlcv, storeCells]
    · rw [set_self hL]; exact ho
  | some adx =>
    obtain ⟨hspx, helx⟩ := hadx adx rfl
    have hfm : ∀ y ∈ m, (f y).length = sz := fun y hy => by
      obtain ⟨k, hk, e⟩ := List.getElem_of_mem hy
      exact (helx k y (by rw [List.getElem?_eq_getElem hk, e])).1
    have hfl : ∀ y ∈ l, (f y).length = sz := fun y hy => by
      obtain ⟨k, hk, e⟩ := List.getElem_of_mem hy
      cases av with
      | none => have := hnilv rfl; omega
      | some ad => exact ((hadv ad rfl).2 k y (by rw [List.getElem?_eq_getElem hk, e])).1
    have hf : ∀ y ∈ l ++ m, (f y).length = sz := fun y hy => (List.mem_append.1 hy).elim (hfl y) (hfm y)
    obtain ⟨news, hnl, hnG, hnT⟩ := sl_values (b := adx.block) (o := adx.off) (f := f) (sz := sz) (l := m) (G := G) helx
    have hnews : ∀ (j : Nat) (u : Value), news[j]? = some u → w.cell? (adx.add j) = some u := by
      intro j u hj
      have hcell := hs _ _ _ (hnG j u hj).1
      have hspx := hspx (Nat.pos_of_ne_zero fun h0 => by have := (List.getElem?_eq_some_iff.1 hj).1; rw [hnl, h0, Nat.zero_mul] at this; omega)
      obtain ⟨b, o, sp⟩ := adx
      simp only at hspx; subst hspx
      unfold Addr.add
      split
      · subst j; simpa using hcell
      · simpa using hcell
    have hnl' : news.length = m.length * inf.size := by rw [his]; exact hnl
    have hTall : ∀ xs : List Value, xs.length = l.length * sz → (∀ (i : Nat) (y : α), l[i]? = some y → ∀ (j : Nat) (T : Ty), (f y)[j]? = some T → ∃ u, xs[i * sz + j]? = some u ∧ T.p G u ∧ u.oneCell' = true) →
        ∀ (i : Nat) (y : α), (l ++ m)[i]? = some y → ∀ (j : Nat) (T : Ty), (f y)[j]? = some T → ∃ u, (xs ++ news)[i * sz + j]? = some u ∧ T.p G u ∧ u.oneCell' = true := by
      intro xs hxl hxT i y hy j T hT
      have hjl := (List.getElem?_eq_some_iff.1 hT).1
      by_cases hil : i < l.length
      · rw [List.getElem?_append_left hil] at hy
        obtain ⟨u, h1, h2, h3⟩ := hxT i y hy j T hT
        exact ⟨u, by rw [List.getElem?_append_left (List.getElem?_eq_some_iff.1 h1).1]; exact h1, h2, h3⟩
      · rw [List.getElem?_append_right (by omega)] at hy
        obtain ⟨u, h1, h2, h3⟩ := hnT _ y hy j T hT
        refine ⟨u, ?_, h2, h3⟩
        have e1 : i * sz = l.length * sz + (i - l.length) * sz := by rw [← Nat.add_mul]; congr 1; omega
        rw [List.getElem?_append_right (by rw [hxl]; omega), hxl, ← h1]
        congr 1; omega
    have hsmall : l.length + m.length ≤ 9223372036854775807 := by simp only [maxLen] at hm; omega
    -- a new row
    have hgrown : ∀ (old : Nat) (xs : List Value), xs.length = l.length * sz → (∀ (i : Nat) (y : α), l[i]? = some y → ∀ (j : Nat) (T : Ty), (f y)[j]? = some T → ∃ u, xs[i * sz + j]? = some u ∧ T.p G u ∧ u.oneCell' = true) →
        (Builtin.append_ #[t, t] tyy #[v, x]).run P w = .ok (.slice (some ⟨w.heap.size, 0, none⟩) (l.length + m.length) (grownCap w (l.length + m.length) old e)) (w.drew.alloc (.cells (xs.toArray ++ news.toArray ++ Builtin.zeroCells z.cells (grownCap w (l.length + m.length) old e - (l.length + m.length))) e)) →
        ∃ v' w' G' S', (Builtin.append_ #[t, t] tyy #[v, x]).run P w = .ok v' w' ∧ Ext (fun b => ∃ i, S i b) G w G' w' ∧ Owns S' (L.set i (ownSl v' sz e)) G' w' ∧ (∀ i b, S' i b → w.heap.size ≤ b ∨ ∃ j, S j b) ∧ (TSl sz f (l ++ m)).p G' v' := by
      intro old xs hxl hxT hrun
      have hge := grownCap_ge w (l.length + m.length) old e
      have hcm := grownCap_le_maxLen w (l.length + m.length) old e hm
      obtain ⟨hext, hsl, hown⟩ := fresh_sl (f := f) (sz := sz) (l := l ++ m) (vs := xs ++ news) (cap := grownCap w (l.length + m.length) old e) (w1 := w.drew.alloc (.cells (xs.toArray ++ news.toArray ++ Builtin.zeroCells z.cells (grownCap w (l.length + m.length) old e - (l.length + m.length))) e)) (fr := (0, 0)) hs rfl rfl rfl rfl
        (by simp only [Array.toList_append, List.append_assoc]; rw [← List.append_assoc]; exact List.take_left) (by simpa using hge) hcm (by simp [hxl, hnl, Nat.add_mul]) hf (hTall xs hxl hxT)
      have hsl' := hsl false (fun e => by cases e)
      have hown' := hown (by simp only [Array.size_append, List.size_toArray, size_zeroCells, hz, hxl, hnl, ← Nat.add_mul]; congr 1; omega) rfl
      rw [List.length_append] at hsl' hown'
      refine ⟨_, _, _, _, hrun, ⟨hext.sat, hext.le, hext.os, hext.tape, hext.output, hext.size, fun b hb' _ => hext.blk b hb' (fun z => z)⟩, ho.set (Z := noZ) hext hiL (fun _ z => z.elim) _ _ (fun b hb' => ?_) hown', ?_, hsl'⟩
      · subst hb'; exact ⟨.inr (Nat.le_refl _), by simp⟩
      · intro j b hb'
        by_cases hj : j = i
        · simp only [hj, if_true] at hb'; exact .inl (by omega)
        · simp only [hj, if_false] at hb'; exact .inr ⟨j, hb'⟩
    rcases hres with ⟨hn, hnS⟩ | ⟨g, n, cap, cs, h1, h2, h3, h4, h5, h6, h7⟩
    · have hl0 : l = [] := by
        rw [hn] at ev; simp only [Value.slice.injEq] at ev
        exact List.eq_nil_of_length_eq_zero ev.2.1.symm
      subst hl0
      by_cases hm0 : m.length = 0
      · have : m = [] := List.eq_nil_of_length_eq_zero hm0
        subst this
        have hn0 : news = [] := List.eq_nil_of_length_eq_zero (by simpa using hnl)
        refine ⟨.slice none 0 0, w, G, S, ?_, Ext.refl hs, ?_, fun i b h => .inr ⟨i, h⟩, TSlX.sl (nil_sl sz f G)⟩
        · subst hn ex
          simp [Builtin.append_, run_underlying hu, sizeOf, typeInfo, hi, Builtin.lenOf, Builtin.firstCells, loadCells, loadCellsFrom]
        · rw [set_self (by rw [← hn]; exact hL)]; exact ho
      · refine hgrown 0 [] (by simp) (by simp) ?_
        have hr := run_append_nil (P := P) w t tyy e inf z hu hi hiz adx m.length capx news hnl' hnews (by omega) (by simp at hsmall; omega) (by rw [hib]; simp only [List.length_nil, Nat.zero_add] at hb; omega)
        subst hn ex
        rw [hr]; simp
    · rw [h1] at ev
      simp only [Value.slice.injEq] at ev
      obtain ⟨rfl, rfl, rfl⟩ := ev
      obtain ⟨_, helv⟩ := hadv ⟨g, 0, none⟩ rfl
      obtain ⟨xs, hxl, hxG, hxT⟩ := sl_values (b := g) (o := 0) (f := f) (sz := sz) (l := l) (G := G) helv
      have hxc : ∀ (j : Nat) (u : Value), xs[j]? = some u → cs[j]? = some u := by
        intro j u hj
        have hcell := hs _ _ _ (hxG j u hj).1
        simp only [World.cell?, h3] at hcell
        simpa using hcell
      have htake : cs.toList.take (l.length * sz) = xs := by
        apply List.ext_getElem?
        intro j
        rw [List.getElem?_take]
        by_cases hj : j < l.length * sz
        · rw [if_pos hj]
          obtain ⟨u, hu'⟩ : ∃ u, xs[j]? = some u := ⟨_, List.getElem?_eq_getElem (by omega)⟩
          rw [hu']; simpa using hxc j u hu'
        · rw [if_neg hj, List.getElem?_eq_none (by omega)]
      by_cases hroom : l.length + m.length ≤ cap
      · -- in place
        have hfit : l.length * inf.size + news.length ≤ cs.size := by rw [hnl, his, h6, ← Nat.add_mul]; exact Nat.mul_le_mul_right _ hroom
        have hr := run_append_room (P := P) w t tyy e inf hu hi g l.length cap cs h3 adx m.length capx news hnl' hnews (fun u hu' => by obtain ⟨k, hk, e'⟩ := List.getElem_of_mem hu'; exact (hnG k u (by rw [List.getElem?_eq_getElem hk, e'])).2) hroom hfit
        have hSg : S i g := (h2 g).2 rfl
        have hlen : (xs ++ news).length = (l.length + m.length) * sz := by rw [List.length_append, hxl, hnl, Nat.add_mul]
        let cs' : Array Value := (cs.toList.take (l.length * inf.size) ++ news ++ cs.toList.drop (l.length * inf.size + news.length)).toArray
        have hw' : (w.setRow g cs').heap[g]? = some (.cells cs' e (0, 0)) := setRow_heap w g cs cs' e (0, 0) h3
        have hoth : ∀ b, b ≠ g → (w.setRow g cs').heap[b]? = w.heap[b]? := fun b hb' => setRow_other w g b cs' hb'
        have hcs' : ∀ (j : Nat) (u : Value), (xs ++ news)[j]? = some u → cs'[j]? = some u := by
          intro j u hj
          have : cs'.toList[j]? = some u := by
            show (cs.toList.take (l.length * inf.size) ++ news ++ cs.toList.drop (l.length * inf.size + news.length))[j]? = some u
            rw [his, htake, List.getElem?_append_left (List.getElem?_eq_some_iff.1 hj).1]; exact hj
          simpa using this
        let G' : Imm := fun b o => if b = g then (xs ++ news)[o]? else G b o
        have hle : Imm.le G G' := by
          intro b o u hbo
          show (if b = g then (xs ++ news)[o]? else G b o) = some u
          by_cases hbg : b = g
          · rw [if_pos hbg]; subst hbg
            have ho' : o < l.length * sz := by
              rcases Nat.lt_or_ge o (l.length * sz) with h | h
              · exact h
              · rw [h7 o h] at hbo; cases hbo
            obtain ⟨u', hu'⟩ : ∃ u', xs[o]? = some u' := ⟨_, List.getElem?_eq_getElem (by omega)⟩
            have := (hxG o u' hu').1
            simp only [Nat.zero_add] at this
            rw [List.getElem?_append_left (by omega), hu', ← this, hbo]
          · rw [if_neg hbg]; exact hbo
        have hsat : Sat G' (w.setRow g cs') := by
          intro b o u hbo
          change (if b = g then (xs ++ news)[o]? else G b o) = some u at hbo
          by_cases hbg : b = g
          · rw [if_pos hbg] at hbo; subst hbg
            simp only [World.cell?, hw']
            simpa using hcs' o u hbo
          · rw [if_neg hbg] at hbo
            have h1' := hs _ _ _ hbo
            simp only [World.cell?] at h1' ⊢
            rw [hoth b hbg]; exact h1'
        have hext : Ext (fun b => b = g) G w G' (w.setRow g cs') := ⟨hsat, hle, rfl, rfl, rfl, by simp [World.setRow], fun b _ hbg => ⟨hoth b hbg, fun o => if_neg hbg⟩⟩
        have hss : (TSl sz f (l ++ m)).p G' (.slice (some ⟨g, 0, none⟩) (l.length + m.length) cap) := by
          have := sl_of_values (f := f) (sz := sz) (l := l ++ m) (G := G') (g := g) (cap := cap) (x := false) (vs := xs ++ news) (by simpa using hroom) h5 (fun e => by cases e) hf
            (fun i y hy j T hT => by obtain ⟨u, a1, a2, a3⟩ := hTall xs hxl hxT i y hy j T hT; exact ⟨u, a1, T.mono hle a2, a3⟩) (fun j u hj => by show (if g = g then _ else _) = _; rw [if_pos rfl]; exact hj)
          rw [List.length_append] at this; exact this
        refine ⟨_, _, G', _, by rw [h1, ex]; exact hr, ⟨hext.sat, hext.le, hext.os, hext.tape, hext.output, hext.size, fun b hb' hz' => hext.blk b hb' (fun e => hz' ⟨i, by rw [e]; exact hSg⟩)⟩,
          ho.set hext hiL (fun b e => by rw [e]; exact hSg) _ (fun b => b = g) (fun b e => ⟨.inl (by rw [e]; exact hSg), by rw [e]; exact (Array.getElem?_eq_some_iff.1 hw').1⟩)
            (.inr ⟨g, l.length + m.length, cap, cs', rfl, fun b => Iff.rfl, hw', hroom, h5, ?_, fun o ho' => ?_⟩), ?_, hss⟩
        · simp only [cs', List.size_toArray, List.length_append, List.length_take, List.length_drop, Array.length_toList]
          rw [h6]; rw [h6] at hfit; omega
        · show (if g = g then _ else _) = _
          rw [if_pos rfl]; exact List.getElem?_eq_none (by rw [hlen]; exact ho')
        · intro j b hb'
          by_cases hj : j = i
          · simp only [hj, if_true] at hb'; exact .inr ⟨i, by rw [hb']; exact hSg⟩
          · simp only [hj, if_false] at hb'; exact .inr ⟨j, hb'⟩
      · refine hgrown cap xs hxl hxT ?_
        have hr := run_append_grow (P := P) w t tyy e inf z hu hi hiz ⟨g, 0, none⟩ l.length cap xs (by rw [his]; exact hxl) (fun j u hj => by
          have := hxc j u hj
          unfold Addr.add
          split
          · subst j; simp only [World.cell?, h3]; simpa using this
          · simp only [World.cell?, h3]; simpa using this) adx m.length capx news hnl' hnews (by omega) (by omega) (growslice_fits (by omega) (by rw [hib]; exact hb))
        rw [h1, ex]; exact hr

theorem op_append {x y : Operand} {α : Type} {sz by_ : Nat} {f : α → List Ty} {l m : List α} {t e : TypeId} {z v : Value} (i : Nat) (hx : Opd E x = some (TAnd (Is v) (TSl sz f l))) (hy : Opd E y = some (TSl sz f m)) (hL : L[i]? = some (ownSl v sz e))
    (hu : P.underlying t = some (.slice e)) (hinf : (P.info? e).map (fun i => (i.zero, i.size, i.bytes)) = some (some z, sz, by_)) (hz : z.cells.size = sz) (hb : (l.length + m.length) * by_ ≤ 140737488355328) (hm : l.length + m.length ≤ maxLen) :
    OpC P L E ⟨dst, .call { callee := .builtin .append, args := #[x, y], argTypes := #[t, t] }, ty, pos, after, gd⟩ (fun v' => TAnd (Is v') (TSl sz f (l ++ m))) (fun v' => L.set i (ownSl v' sz e)) := by
  intro a w G S hs ho ht K Q k
  have hxx := ht x (by simp [Op.operands, Call.operands]) _ hx
  have hyy := ht y (by simp [Op.operands, Call.operands]) _ hy
  have hxv : a.eval x = v := hxx.1
  obtain ⟨v', w', G', S', hr, h1, h2, h3, h4⟩ := run_append_res (P := P) (tyy := ty) hu hinf hz hs ho hL (by rw [← hxv]; exact hxx.2) hyy hb hm
  have : (execOp a.eval (⟨dst, .call { callee := .builtin .append, args := #[x, y], argTypes := #[t, t] }, ty, pos, after, gd⟩ : Oper)).run P w = .ok (.value v') w' := by
    simp only [execOp, resolve]
    simp [invoke, builtin, hxv, hr]
  simp only [Oper.wp, this, Oper.upon_value]
  exact k v' w' G' S' h1 h2 h3 ⟨rfl, h4⟩

/-- append onto a literal: nothing is written in place. -/
theorem op_appendX {x y : Operand} {α : Type} {sz by_ : Nat} {f : α → List Ty} {l m : List α} {t e : TypeId} {z : Value} (hx : Opd E x = some (TSlX sz f l)) (hy : Opd E y = some (TSl sz f m))
    (hu : P.underlying t = some (.slice e)) (hinf : (P.info? e).map (fun i => (i.zero, i.size, i.bytes)) = some (some z, sz, by_)) (hb : (l.length + m.length) * by_ ≤ 140737488355328) (hm : l.length + m.length ≤ maxLen) :
    OpP P L E ⟨dst, .call { callee := .builtin .append, args := #[x, y], argTypes := #[t, t] }, ty, pos, after, gd⟩ (TSl sz f (l ++ m)) := by
  refine OpP.laid fun a w G S hs ho ht => ?_
  have hxx := ht x (by simp [Op.operands, Call.operands]) _ hx
  have hyy := ht y (by simp [Op.operands, Call.operands]) _ hy
  obtain ⟨inf, hi, hiz, his, hib⟩ := info_parts hinf
  obtain ⟨av, capv, ev, hlcv, hcmv, hxc, hnilv, hadv⟩ := hxx
  have hcap : capv = l.length := hxc rfl
  subst hcap
  have hgo : ∀ v' w', (Builtin.append_ #[t, t] ty #[a.eval x, a.eval y]).run P w = .ok v' w' → (execOp a.eval (⟨dst, .call { callee := .builtin .append, args := #[x, y], argTypes := #[t, t] }, ty, pos, after, gd⟩ : Oper)).run P w = .ok (.value v') w' := by
    intro v' w' hr
    simp only [execOp, resolve]
    simp [invoke, builtin, hr]
  obtain ⟨ax, capx, ex, hlcx, hcmx, -, hnilx, hadx⟩ := hyy
  by_cases hm0 : m.length = 0
  · have : m = [] := List.eq_nil_of_length_eq_zero hm0
    subst this
    rw [List.append_nil]
    refine ⟨a.eval x, w, G, hgo _ _ ?_, Ext.refl hs, ⟨av, l.length, ev, hlcv, hcmv, (fun e => by cases e), hnilv, hadv⟩⟩
    rw [ev, ex]
    cases ax <;> cases av <;> simp [Builtin.append_, run_underlying hu, sizeOf, typeInfo, hi, Builtin.lenOf, Builtin.firstCells, storeCells, loadCells, loadCellsFrom]
  · cases ax with
    | none => have := hnilx rfl; omega
    | some adx =>
      obtain ⟨hspx, helx⟩ := hadx adx rfl
      have hfl : ∀ y ∈ l ++ m, (f y).length = sz := fun y hy => by
        rcases List.mem_append.1 hy with hy | hy
        · obtain ⟨k, hk, e⟩ := List.getElem_of_mem hy
          cases av with
          | none => have := hnilv rfl; omega
          | some ad => exact ((hadv ad rfl).2 k y (by rw [List.getElem?_eq_getElem hk, e])).1
        · obtain ⟨k, hk, e⟩ := List.getElem_of_mem hy
          exact (helx k y (by rw [List.getElem?_eq_getElem hk, e])).1
      have hval : ∀ (ad : Addr) (q : List α), (0 < q.length → ad.spot = none) → (∀ (i : Nat) (y : α), q[i]? = some y → (f y).length = sz ∧ CellsP G ad.block (ad.off + i * sz) (f y)) → ∃ vs : List Value, vs.length = q.length * sz ∧ (∀ (j : Nat) (u : Value), vs[j]? = some u → w.cell? (ad.add j) = some u) ∧
          ∀ (i : Nat) (y : α), q[i]? = some y → ∀ (j : Nat) (T : Ty), (f y)[j]? = some T → ∃ u, vs[i * sz + j]? = some u ∧ T.p G u ∧ u.oneCell' = true := by
        intro ad q hsp hel
        obtain ⟨vs, h1, h2, h3⟩ := sl_values (b := ad.block) (o := ad.off) (f := f) (sz := sz) (l := q) (G := G) hel
        refine ⟨vs, h1, fun j u hj => ?_, h3⟩
        have hcell := hs _ _ _ (h2 j u hj).1
        have hsp := hsp (Nat.pos_of_ne_zero fun h0 => by have := (List.getElem?_eq_some_iff.1 hj).1; rw [h1, h0, Nat.zero_mul] at this; omega)
        obtain ⟨b, o, sp⟩ := ad
        simp only at hsp; subst hsp
        unfold Addr.add
        split
        · subst j; simpa using hcell
        · simpa using hcell
      obtain ⟨news, hnl, hnews, hnT⟩ := hval adx m hspx helx
      have hsmall : l.length + m.length ≤ 9223372036854775807 := by simp only [maxLen] at hm; omega
      have hfin : ∀ (xs : List Value), xs.length = l.length * sz → (∀ (i : Nat) (y : α), l[i]? = some y → ∀ (j : Nat) (T : Ty), (f y)[j]? = some T → ∃ u, xs[i * sz + j]? = some u ∧ T.p G u ∧ u.oneCell' = true) → ∀ old,
          (Builtin.append_ #[t, t] ty #[a.eval x, a.eval y]).run P w = .ok (.slice (some ⟨w.heap.size, 0, none⟩) (l.length + m.length) (grownCap w (l.length + m.length) old e)) (w.drew.alloc (.cells (xs.toArray ++ news.toArray ++ Builtin.zeroCells z.cells (grownCap w (l.length + m.length) old e - (l.length + m.length))) e)) →
          ∃ v w' G', (execOp a.eval (⟨dst, .call { callee := .builtin .append, args := #[x, y], argTypes := #[t, t] }, ty, pos, after, gd⟩ : Oper)).run P w = .ok (.value v) w' ∧ Ext noZ G w G' w' ∧ (TSl sz f (l ++ m)).p G' v := by
        intro xs hxl hxT old hrun
        obtain ⟨hext, hsl, _⟩ := fresh_sl (f := f) (sz := sz) (l := l ++ m) (vs := xs ++ news) (cap := grownCap w (l.length + m.length) old e) (w1 := w.drew.alloc (.cells (xs.toArray ++ news.toArray ++ Builtin.zeroCells z.cells (grownCap w (l.length + m.length) old e - (l.length + m.length))) e)) (fr := (0, 0)) hs rfl rfl rfl rfl
          (by simp only [Array.toList_append, List.append_assoc]; rw [← List.append_assoc]; exact List.take_left) (by simpa using grownCap_ge w (l.length + m.length) old e) (grownCap_le_maxLen w (l.length + m.length) old e hm) (by simp [hxl, hnl, Nat.add_mul]) hfl
          (fun i y hy j T hT => by
            have hjl := (List.getElem?_eq_some_iff.1 hT).1
            by_cases hil : i < l.length
            · rw [List.getElem?_append_left hil] at hy
              obtain ⟨u, h1, h2, h3⟩ := hxT i y hy j T hT
              exact ⟨u, by rw [List.getElem?_append_left (List.getElem?_eq_some_iff.1 h1).1]; exact h1, h2, h3⟩
            · rw [List.getElem?_append_right (by omega)] at hy
              obtain ⟨u, h1, h2, h3⟩ := hnT _ y hy j T hT
              refine ⟨u, ?_, h2, h3⟩
              have e1 : i * sz = l.length * sz + (i - l.length) * sz := by rw [← Nat.add_mul]; congr 1; omega
              rw [List.getElem?_append_right (by rw [hxl]; omega), hxl, ← h1]
              congr 1; omega)
        have hsl' := hsl false (fun e => by cases e)
        rw [List.length_append] at hsl'
        exact ⟨_, _, _, hgo _ _ hrun, hext, hsl'⟩
      cases av with
      | none =>
        have hl0 : l = [] := List.eq_nil_of_length_eq_zero (hnilv rfl)
        subst hl0
        refine hfin [] (by simp) (by simp) 0 ?_
        have hr := run_append_nil (P := P) w t ty e inf z hu hi hiz adx m.length capx news (by rw [his]; exact hnl) hnews (by omega) (by simp at hsmall; omega) (by rw [hib]; simp only [List.length_nil, Nat.zero_add] at hb; omega)
        rw [ev, ex]
        simp only [List.length_nil] at *
        rw [hr]; simp
      | some adv =>
        obtain ⟨hspv, helv⟩ := hadv adv rfl
        obtain ⟨xs, hxl, hxs, hxT⟩ := hval adv l hspv helv
        refine hfin xs hxl hxT l.length ?_
        have hr := run_append_grow (P := P) w t ty e inf z hu hi hiz adv l.length l.length xs (by rw [his]; exact hxl) hxs adx m.length capx news (by rw [his]; exact hnl) hnews (by omega) (by omega) (growslice_fits (by omega) (by rw [hib]; exact hb))
        rw [ev, ex]; exact hr

/-! ### literals -/
theorem foldl_set (off : Nat) : ∀ (vs : List Value) (k : Nat) (cs : Array Value), let r := (vs.zipIdx k).foldl (fun cs (x : Value × Nat) => cs.setIfInBounds (off + x.2) x.1) cs
    r.size = cs.size ∧ ∀ i, r[i]? = if off + k ≤ i ∧ i < off + k + vs.length ∧ i < cs.size then vs[i - (off + k)]? else cs[i]? := by
  intro vs
  induction vs with
  | nil => intro k cs; simp; intro i h1 h2; omega
  | cons v vs ih =>
    intro k cs
    simp only [List.zipIdx_cons, List.foldl_cons]
    obtain ⟨h1, h2⟩ := ih (k + 1) (cs.setIfInBounds (off + k) v)
    refine ⟨by simpa using h1, fun i => ?_⟩
    rw [h2 i]
    simp only [Array.size_setIfInBounds, List.length_cons, Array.getElem?_setIfInBounds]
    by_cases hi : off + k = i
    · subst hi
      rw [if_neg (by omega)]
      by_cases hc : off + k < cs.size
      · rw [if_pos rfl, if_pos hc, if_pos (by omega)]; simp
      · rw [if_pos rfl, if_neg hc, if_neg (by omega)]
        rw [Array.getElem?_eq_none (by omega)]
    · by_cases hr : off + k ≤ i ∧ i < off + k + (vs.length + 1) ∧ i < cs.size
      · rw [if_pos (by omega), if_pos hr, show i - (off + k) = (i - (off + (k + 1))) + 1 from by omega]
        simp
      · rw [if_neg (by omega), if_neg hr, if_neg hi]

theorem fill_row (sz : Nat) : ∀ (vs : List Value) (k : Nat) (cells : Array Value), (∀ v ∈ vs, v.cells.size = sz) → (k + vs.length) * sz ≤ cells.size →
    ∃ r, Instr.fill (fun i => some (i * sz, sz)) cells ((vs.zipIdx k).map fun x => (x.2, x.1)) = some r ∧ r.size = cells.size ∧ (∀ i, i < k * sz → r[i]? = cells[i]?) ∧ ∀ (i : Nat) (v : Value), vs[i]? = some v → ∀ (j : Nat) (u : Value), v.cells.toList[j]? = some u → r[(k + i) * sz + j]? = some u := by
  intro vs
  induction vs with
  | nil => intro k cells _ _; exact ⟨cells, rfl, rfl, fun _ _ => rfl, by simp⟩
  | cons v vs ih =>
    intro k cells hv hle
    have hvs : v.cells.size = sz := hv v (by simp)
    have e1 : (k + (v :: vs).length) * sz = k * sz + sz + vs.length * sz := by simp only [List.length_cons]; rw [Nat.add_mul, Nat.add_mul]; omega
    obtain ⟨g1, g2⟩ := foldl_set (k * sz) v.cells.toList 0 cells
    have hz : v.cells.zipIdx.foldl (fun cs (x : Value × Nat) => cs.setIfInBounds (k * sz + x.2) x.1) cells = (v.cells.toList.zipIdx 0).foldl (fun cs (x : Value × Nat) => cs.setIfInBounds (k * sz + x.2) x.1) cells := by
      rw [← Array.foldl_toList]; simp
    obtain ⟨r, h1, h2, h3, h4⟩ := ih (k + 1) ((v.cells.toList.zipIdx 0).foldl (fun cs (x : Value × Nat) => cs.setIfInBounds (k * sz + x.2) x.1) cells) (fun u hu => hv u (by simp [hu])) (by rw [g1]; rw [Nat.add_mul, Nat.add_mul]; omega)
    refine ⟨r, ?_, h2.trans g1, ?_, ?_⟩
    · simp only [List.zipIdx_cons, List.map_cons, Instr.fill]
      rw [if_neg (by simp [hvs]; omega)]
      rw [hz]; exact h1
    · intro i hi
      rw [h3 i (by rw [Nat.add_mul]; omega), g2 i, if_neg (by omega)]
    · intro i u hu j u' hj
      cases i with
      | zero =>
        simp at hu; subst hu
        have hjl := (List.getElem?_eq_some_iff.1 hj).1
        simp only [Array.length_toList] at hjl
        rw [h3 _ (by simp only [Nat.add_zero, Nat.add_mul, Nat.one_mul]; omega), g2, if_pos (by simp; omega), ← hj]
        congr 1; simp
      | succ i =>
        have := h4 i u (by simpa using hu) j u' hj
        rw [show k + (i + 1) = k + 1 + i from by omega]; exact this

def partsOf (parts : Array (Nat × Operand)) : List Operand := parts.toList.map (·.2)
def partsOk (parts : Array (Nat × Operand)) (n : Nat) : Bool := parts.toList.map (·.1) == List.range n

theorem run_buildSlice (w : World) {t e : TypeId} {z : Value} {sz by_ : Nat} (hu : P.underlying t = some (.slice e)) (hinf : (P.info? e).map (fun i => (i.zero, i.size, i.bytes)) = some (some z, sz, by_)) (vs : List Value) (parts : Array (Nat × Value)) (hp : parts.toList = (vs.zipIdx 0).map fun x => (x.2, x.1))
    (hv : ∀ v ∈ vs, v.cells.size = sz) (hn : vs.length * sz ≤ 16777216) :
    ∃ cs : Array Value, (Instr.buildSlice t vs.length parts).run P w = .ok (.slice (some ⟨w.heap.size, 0, none⟩) vs.length vs.length) (w.alloc (.cells cs e)) ∧ cs.size = vs.length * sz ∧ ∀ (i : Nat) (v : Value), vs[i]? = some v → ∀ (j : Nat) (u : Value), v.cells.toList[j]? = some u → cs[i * sz + j]? = some u := by
  obtain ⟨inf, hi, hiz, his, hib⟩ := info_parts hinf
  have hn' : ¬ (vs.length * sz > 2 ^ 24) := by omega
  have hu' : ∀ w, (underlying t).run P w = .ok (.slice e) w := fun w => run_underlying hu w
  have hs' : ∀ w, (sizeOf e).run P w = .ok sz w := fun w => by simp [sizeOf, typeInfo, hi, his]
  have hz' : ∀ w, (zeroValue e).run P w = .ok z w := fun w => by simp [zeroValue, typeInfo, hi, hiz]
  have hfill : ∀ cells0 : Array Value, cells0.size = vs.length * sz → ∃ r, Instr.fill (fun i => some (i * sz, sz)) cells0 parts.toList = some r ∧ r.size = vs.length * sz ∧ ∀ (i : Nat) (v : Value), vs[i]? = some v → ∀ (j : Nat) (u : Value), v.cells.toList[j]? = some u → r[i * sz + j]? = some u := by
    intro cells0 hc
    obtain ⟨r, h1, h2, _, h4⟩ := fill_row sz vs 0 cells0 hv (by rw [hc]; simp)
    exact ⟨r, by rw [hp]; exact h1, by rw [h2, hc], fun i v hi j u hj => by have := h4 i v hi j u hj; simpa using this⟩
  by_cases h0 : vs.length * sz = 0
  · obtain ⟨r, h1, h2, h3⟩ := hfill ((Array.range (vs.length * sz)).map fun x => (#[] : Array Value)[x % (#[] : Array Value).size]!) (by simp)
    refine ⟨r, ?_, h2, h3⟩
    unfold Instr.buildSlice
    simp only [Sem.run_bind, hu', Result.andThen_ok, hs', if_neg hn', if_pos h0, Sem.run_pure, h1]
    simp [newRow]
  · obtain ⟨r, h1, h2, h3⟩ := hfill ((Array.range (vs.length * sz)).map fun x => z.cells[x % z.cells.size]!) (by simp)
    refine ⟨r, ?_, h2, h3⟩
    unfold Instr.buildSlice
    simp only [Sem.run_bind, hu', Result.andThen_ok, hs', if_neg hn', if_neg h0, Sem.run_pure, hz', h1]
    simp [newRow]

/-- The operands of a literal, each the cells of an element. -/
def LitOk {α : Type} (E : Env) (f : α → List Ty) : List Operand → List α → Prop
  | [], [] => True
  | x :: xs, y :: l => (∃ T, Opd E x = some T ∧ CellsOf T (f y)) ∧ LitOk E f xs l
  | _, _ => False

theorem LitOk.vals {α : Type} {E : Env} {f : α → List Ty} {G : Imm} {a : Act} : ∀ (xs : List Operand) (l : List α), LitOk E f xs l → (∀ x ∈ xs, ∀ T, Opd E x = some T → T.p G (a.eval x)) →
    xs.length = l.length ∧ ∀ (i : Nat) (y : α), l[i]? = some y → ∃ v, (xs.map a.eval)[i]? = some v ∧ v.cells.toList.length = (f y).length ∧ ∀ (j : Nat) (U : Ty) (u : Value), (f y)[j]? = some U → v.cells.toList[j]? = some u → U.p G u ∧ u.oneCell' = true
  | [], [], _, _ => ⟨rfl, by simp⟩
  | x :: xs, y :: l, h, ho => by
    obtain ⟨⟨T, hT, hc⟩, hr⟩ := h
    obtain ⟨h1, h2⟩ := LitOk.vals xs l hr (fun z hz => ho z (by simp [hz]))
    refine ⟨by simp [h1], fun i z hz => ?_⟩
    cases i with
    | zero => simp at hz; subst hz; exact ⟨a.eval x, by simp, hc G _ (ho x (by simp) T hT)⟩
    | succ i => simpa using h2 i z (by simpa using hz)
  | [], _ :: _, h, _ => h.elim
  | _ :: _, [], h, _ => h.elim

theorem run_lit {α : Type} {sz by_ n : Nat} {f : α → List Ty} (l : List α) {t e : TypeId} {z : Value} {parts : Array (Nat × Operand)} (hp : partsOk parts n = true) (hx : LitOk E f (partsOf parts) l) (hn : n = l.length) (hf : ∀ y ∈ l, (f y).length = sz)
    (hu : P.underlying t = some (.slice e)) (hinf : (P.info? e).map (fun i => (i.zero, i.size, i.bytes)) = some (some z, sz, by_)) (hb : n * sz ≤ 16777216) (hm : n ≤ maxLen) {a : Act} {w : World} {G : Imm} (hs : Sat G w) (ho : TypedO E G a ⟨dst, .buildSlice t n parts, ty, pos, after, gd⟩) :
    ∃ v w' G', (execOp a.eval ⟨dst, .buildSlice t n parts, ty, pos, after, gd⟩).run P w = .ok (.value v) w' ∧ Ext noZ G w G' w' ∧ (TSlX sz f l).p G' v ∧ (ownSl v sz e).p (fun b => b = w.heap.size) G' w' ∧ w'.heap.size = w.heap.size + 1 := by
  have hmem : ∀ x ∈ partsOf parts, x ∈ (⟨dst, .buildSlice t n parts, ty, pos, after, gd⟩ : Oper).op.operands := by
    intro x hx'
    simp only [Op.operands]
    simpa [partsOf] using hx'
  obtain ⟨hlen, hvals⟩ := LitOk.vals (G := G) (a := a) _ l hx (fun x hx' T hT => ho x (hmem x hx') T hT)
  have hpo : parts.toList.map (·.1) = List.range n := by simpa [partsOk] using hp
  have hparts : (parts.map fun (i, x) => (i, a.eval x)).toList = (((partsOf parts).map a.eval).zipIdx 0).map fun x => (x.2, x.1) := by
    apply List.ext_getElem?
    intro i
    have h1 := congrArg (fun q => q[i]?) hpo
    simp only [List.getElem?_map] at h1
    simp only [Array.toList_map, List.getElem?_map, List.getElem?_zipIdx, partsOf]
    cases hi : parts.toList[i]? with
    | none => simp
    | some q =>
      obtain ⟨k, x⟩ := q
      rw [hi] at h1
      simp only [Option.map_some] at h1
      have hin : i < n := by
        rcases Nat.lt_or_ge i n with h | h
        · exact h
        · rw [List.getElem?_eq_none (by simpa using h)] at h1; cases h1
      rw [List.getElem?_range hin] at h1
      simp only [Option.some.injEq] at h1
      subst h1
      simp
  have hvl : ((partsOf parts).map a.eval).length = n := by rw [List.length_map, hlen, hn]
  obtain ⟨cs, hr, hcs, hcc⟩ := run_buildSlice (P := P) w hu hinf ((partsOf parts).map a.eval) _ hparts (fun v hv => by
    obtain ⟨i, hi, e⟩ := List.getElem_of_mem hv
    have hil : i < l.length := by rw [hvl] at hi; omega
    obtain ⟨v', h1, h2, _⟩ := hvals i l[i] (List.getElem?_eq_getElem hil)
    rw [List.getElem?_eq_getElem hi, e] at h1
    cases h1
    rw [← Array.length_toList, h2]
    exact hf _ (List.getElem_mem hil)) (by rw [hvl]; exact hb)
  rw [hvl] at hr hcs
  obtain ⟨hext, hsl, hown⟩ := fresh_sl (f := f) (sz := sz) (l := l) (vs := cs.toList) (cap := n) (cells := cs) (e := e) (fr := (0, 0)) (w1 := w.alloc (.cells cs e)) hs rfl rfl rfl rfl List.take_length (by omega) hm (by simp [hcs, hn]) hf (fun i y hy j T hT => by
    obtain ⟨v, h1, h2, h3⟩ := hvals i y hy
    have hjl := (List.getElem?_eq_some_iff.1 hT).1
    obtain ⟨u, hu'⟩ : ∃ u, v.cells.toList[j]? = some u := ⟨_, List.getElem?_eq_getElem (by omega)⟩
    exact ⟨u, by simpa using hcc i v h1 j u hu', h3 j T u hT hu'⟩)
  rw [← hn] at hsl hown
  refine ⟨_, _, _, ?_, hext, hsl true (fun _ => rfl), hown hcs rfl, by simp⟩
  simp only [execOp]
  simp [hr]

theorem op_lit {α : Type} {sz by_ n : Nat} (f : α → List Ty) (l : List α) {t e : TypeId} {z : Value} {parts : Array (Nat × Operand)} (hp : partsOk parts n = true) (hx : LitOk E f (partsOf parts) l) (hn : n = l.length) (hf : ∀ y ∈ l, (f y).length = sz)
    (hu : P.underlying t = some (.slice e)) (hinf : (P.info? e).map (fun i => (i.zero, i.size, i.bytes)) = some (some z, sz, by_)) (hb : n * sz ≤ 16777216) (hm : n ≤ maxLen) : OpP P L E ⟨dst, .buildSlice t n parts, ty, pos, after, gd⟩ (TSlX sz f l) :=
  OpP.laid fun _ _ _ _ hs _ ho => let ⟨v, w', G', h1, h2, h3, _⟩ := run_lit l hp hx hn hf hu hinf hb hm hs ho; ⟨v, w', G', h1, h2, h3⟩

theorem op_litO {α : Type} {sz by_ n : Nat} (f : α → List Ty) (l : List α) {t e : TypeId} {z : Value} {parts : Array (Nat × Operand)} (hp : partsOk parts n = true) (hx : LitOk E f (partsOf parts) l) (hn : n = l.length) (hf : ∀ y ∈ l, (f y).length = sz)
    (hu : P.underlying t = some (.slice e)) (hinf : (P.info? e).map (fun i => (i.zero, i.size, i.bytes)) = some (some z, sz, by_)) (hb : n * sz ≤ 16777216) (hm : n ≤ maxLen) : OpC P L E ⟨dst, .buildSlice t n parts, ty, pos, after, gd⟩ (fun v => TAnd (Is v) (TSl sz f l)) (fun v => L ++ [ownSl v sz e]) := by
  intro a w G S hs ho ht K Q k
  obtain ⟨v, w', G', h1, h2, h3, h4, h5⟩ := run_lit l hp hx hn hf hu hinf hb hm hs ht
  simp only [Oper.wp, h1, Oper.upon_value]
  refine k v w' G' _ ⟨h2.sat, h2.le, h2.os, h2.tape, h2.output, h2.size, fun b hb' _ => h2.blk b hb' (fun z => z)⟩ (ho.snoc h2 _ (fun b => b = w.heap.size) (fun b e => ⟨by omega, by omega⟩) h4) ?_ ⟨rfl, TSlX.sl h3⟩
  intro i b hb'
  by_cases hi : i = L.length
  · simp only [hi, if_true] at hb'; exact .inl (by omega)
  · simp only [hi, if_false] at hb'; exact .inr ⟨i, hb'⟩

/-! ### a contract out of code -/
def Env.args : Nat → List Ty → Env
  | _, [] => []
  | i, T :: A => (i, T) :: Env.args (i + 1) A

theorem Env.args_get : ∀ (A : List Ty) (i t : Nat) (T : Ty), (Env.args i A).get t = some T → i ≤ t ∧ A[t - i]? = some T
  | [], _, _, _, h => by cases h
  | U :: A, i, t, T, h => by
    simp only [Env.args, Env.get] at h
    by_cases hk : Nat.beq i t = true
    · have := Nat.eq_of_beq_eq_true hk
      subst this
      rw [hk] at h
      simp at h; subst h
      simp
    · simp only [Bool.not_eq_true] at hk; rw [hk] at h
      obtain ⟨h1, h2⟩ := Env.args_get A (i + 1) t T h
      refine ⟨by omega, ?_⟩
      rw [show t - i = (t - (i + 1)) + 1 from by omega]
      simpa using h2

/-- What a function's body must come to. -/
def RetR (w0 : World) (G0 : Imm) (S0 : Nat → Nat → Prop) (T : Value → Ty) (L' : Value → List Res) (e : Ending) (w' : World) : Prop :=
  ∃ v G' S', e = .returned v ∧ Ext (fun b => ∃ i, S0 i b) G0 w0 G' w' ∧ Owns S' (L' v) G' w' ∧ (∀ i b, S' i b → w0.heap.size ≤ b ∨ ∃ j, S0 j b) ∧ (T v).p G' v

abbrev FC (P : Program) (N : Nat) (w0 : World) (G0 : Imm) (S0 : Nat → Nat → Prop) : FCtx := ⟨P, N, w0, G0, fun b => ∃ i, S0 i b⟩

theorem ArgsT.get {G : Imm} : ∀ (A : List Ty) (vs : List Value), ArgsT G A vs → A.length = vs.length ∧ ∀ (i : Nat) (T : Ty), A[i]? = some T → ∃ v, vs[i]? = some v ∧ T.p G v
  | [], [], _ => ⟨rfl, by simp⟩
  | T :: A, v :: vs, h => by
    obtain ⟨h1, h2⟩ := ArgsT.get A vs h.2
    refine ⟨by simp [h1], fun i U e => ?_⟩
    cases i with
    | zero => simp at e; subst e; exact ⟨v, rfl, h.1⟩
    | succ i => simpa using h2 i U (by simpa using e)
  | [], _ :: _, h => h.elim
  | _ :: _, [], h => h.elim

theorem CallsC.of {f : FuncId} {fn : Func} {c : Code} {A : List Ty} {T : Value → Ty} {L' : Value → List Res} {N : Nat} (henter : ∀ args w, (callFunc f args).run P w = .ok (.enter f args) w) (hf : P.funcs[f]? = some fn) (hb : fn.body = some c) (hN : fn.ntmps = N) (hA : Nat.ble A.length N = true)
    (h : ∀ w0 G0 S0, Sat G0 w0 → Owns S0 L G0 w0 → HT (FC P N w0 G0 S0) (Env.args 0 A) L c (bodyPost P fn (RetR w0 G0 S0 T L'))) : CallsC P f A L T L' := by
  refine ⟨henter, fun vs w G S hs ho ha => ?_⟩
  refine calls_of_wp hf hb ?_
  obtain ⟨hlen, hget⟩ := ArgsT.get A vs ha
  have hA' := Nat.le_of_ble_eq_true hA
  refine h w G S hs ho _ w G S ⟨Ext.refl hs, ho, fun i b hb => .inl ⟨i, hb⟩⟩ ⟨?_, rfl, ?_⟩
  · simp [hN]; omega
  · intro t U e
    obtain ⟨_, h2⟩ := Env.args_get A 0 t U e
    obtain ⟨v, h3, h4⟩ := hget t U (by simpa using h2)
    have ht : t < vs.length := (List.getElem?_eq_some_iff.1 h3).1
    rw [Array.getD_eq_getD_getElem?, Array.getElem?_append_left (by simpa using ht)]
    simpa [h3] using h4

section
variable {fn : Func} {w0 : World} {G0 : Imm} {S0 : Nat → Nat → Prop} {T : Value → Ty} {L' : Value → List Res} {N : Nat}
theorem HX.val {e : Exit} (he : e = .ret ∨ e = .normal) (h : ∀ a w G S, Inv (FC P N w0 G0 S0) L G w S → Typed N E G a → ∃ v, (results fn a.tmps).run P w = .ok v w ∧ (T v).p G v ∧ ∃ S', Owns S' (L' v) G w ∧ ∀ i b, S' i b → ∃ j, S j b) :
    HX (FC P N w0 G0 S0) E L (bodyPost P fn (RetR w0 G0 S0 T L')) e := by
  intro a w G S hi ht
  obtain ⟨v, hr, hT, S', ho, hs⟩ := h a w G S hi ht
  have : a.defers = [] ∧ ∃ v, (results fn a.tmps).run P w = .ok v w ∧ RetR w0 G0 S0 T L' (.returned v) w :=
    ⟨ht.defers, v, hr, v, G, S', rfl, hi.ext, ho, fun i b hb => by obtain ⟨j, hj⟩ := hs i b hb; exact (hi.mine j b hj).symm, hT⟩
  rcases he with rfl | rfl <;> exact this

/-- The value that is returned, out of its slots. -/
def RetT (E : Env) : List ResultVar → Ty → Prop
  | [.tmp t], T => ∃ U, E.get t = some U ∧ Sub U T
  | rs, T => ∃ (ts : List Tmp) (Us : List Ty), rs = ts.map ResultVar.tmp ∧ ts.length ≠ 1 ∧ Opds E (ts.map Operand.tmp) Us ∧ Sub (TTup Us) T

theorem run_results_tmps {w : World} {tmps : Array Value} {ts : List Tmp} (h : fn.results = (ts.map ResultVar.tmp).toArray) (h1 : ts.length ≠ 1) : (results fn tmps).run P w = .ok (.tuple (ts.map (tmps.getD · undef)).toArray) w := by
  have key : ∀ (g : ResultVar → Sem Value), (∀ t w, (g (.tmp t)).run P w = .ok (tmps.getD t undef) w) → ∀ (l : List Tmp) (w : World), (List.mapM g (l.map ResultVar.tmp)).run P w = .ok (l.map (tmps.getD · undef)) w := by
    intro g hg l
    induction l with
    | nil => intro w; simp
    | cons t l ih => intro w; simp only [List.map_cons, List.mapM_cons, Sem.run_bind, hg, Result.andThen_ok, ih, Sem.run_pure]
  unfold results
  rw [h]
  simp only [List.mapM_toArray, Sem.run_bind, Sem.run_map]
  rw [key _ (fun t w => by simp) ts w]
  simp only [Result.andThen_ok]
  rw [dif_neg (by simpa using h1)]
  rfl

theorem RetT.val {a : Act} {w : World} {G : Imm} {U : Ty} (h : RetT E fn.results.toList U) (ht : Typed N E G a) : ∃ v, (results fn a.tmps).run P w = .ok v w ∧ U.p G v := by
  unfold RetT at h
  split at h
  · rename_i rs t hrs
    obtain ⟨V, h1, h2⟩ := h
    refine ⟨a.tmps.getD t undef, ?_, h2 _ _ (ht.get t V h1)⟩
    exact results_tmp (by apply Array.toList_inj.1; simpa using hrs) a.tmps P w
  · obtain ⟨ts, Us, h1, h2, h3, h4⟩ := h
    have hrs : fn.results = (ts.map ResultVar.tmp).toArray := by apply Array.toList_inj.1; simpa using h1
    refine ⟨_, run_results_tmps hrs h2, h4 _ _ ?_⟩
    have hargs := Opds.args (G := G) (a := a) _ Us h3 (fun x hx T hT => ht.opd x hT)
    obtain ⟨hl, hg⟩ := ArgsT.get _ _ hargs
    refine ⟨ts.map (a.tmps.getD · undef), rfl, by simp at hl; simp [hl], fun j T u e1 e2 => ?_⟩
    obtain ⟨v, e3, e4⟩ := hg j T e1
    have : ((ts.map Operand.tmp).map a.eval) = ts.map (a.tmps.getD · undef) := by simp [Act.eval]
    rw [this, e2] at e3
    cases e3; exact e4

/-- A function that only computes is at its end. -/
theorem HX.done {e : Exit} {U : Ty} (he : e = .ret ∨ e = .normal) (h : RetT E fn.results.toList U) : HX (FC P N w0 G0 S0) E L (bodyPost P fn (RetR w0 G0 S0 (fun _ => U) (fun _ => []))) e :=
  HX.val he fun a w G S hi ht => let ⟨v, h1, h2⟩ := h.val ht; ⟨v, h1, h2, fun _ _ => False, Owns.none G w, fun _ _ z => z.elim⟩

/-- A function that hands back a slice of its own is at its end. -/
theorem HX.doneO {e : Exit} {U : Ty} {v : Value} {sz : Nat} {el : TypeId} (i : Nat) (he : e = .ret ∨ e = .normal) (h : RetT E fn.results.toList (TAnd (Is v) U)) (hL : L[i]? = some (ownSl v sz el)) : HX (FC P N w0 G0 S0) E L (bodyPost P fn (RetR w0 G0 S0 (fun v => TAnd (Is v) U) (fun v => [ownSl v sz el]))) e :=
  HX.val he fun a w G S hi ht => by
    obtain ⟨v', h1, h2⟩ := h.val (P := P) (w := w) ht
    obtain ⟨h3, h4⟩ := h2
    have h3' : v' = v := h3
    subst h3'
    refine ⟨v', h1, ⟨rfl, h4⟩, fun j b => j = 0 ∧ S i b, ⟨?_, ?_, ?_, ?_⟩, fun j b hb => ⟨i, hb.2⟩⟩
    · intro j b hb; exact hi.owns.bound i b hb.2
    · intro j j' b hb hb'; omega
    · intro j b hb; simp [hb.1]
    · intro j r hr
      cases j with
      | zero => simp at hr; subst hr; simpa using hi.owns.res i _ hL
      | succ j => simp at hr
end

/-! ### calls that hand back what is the caller's own -/
abbrev CFnO (P : Program) (f : FuncId) (A : List Ty) (T : Ty) (sz : Nat) (e : TypeId) : Prop := CallsC P f A [] (fun v => TAnd (Is v) T) (fun v => [ownSl v sz e])

theorem CallsC.justFn {f : FuncId} {A : List Ty} {T : Ty} {sz : Nat} {e : TypeId} (h : CFnO P f A T sz e) : CFn P f A T :=
  ⟨h.enter, fun vs w G S hs ho ha => (h.calls vs w G S hs ho ha).mono fun e w' ⟨v, G', S', h1, h2, _, _, h5⟩ => ⟨v, G', fun _ _ => False, h1, h2, Owns.none G' w', fun _ _ z => z.elim, h5.2⟩⟩

theorem op_callO {f : FuncId} {A : List Ty} {T : Value → Ty} {R : Value → Res} {xs : List Operand} {tys : Array TypeId} (hf : CallsC P f A [] T (fun v => [R v])) (hx : Opds E xs A) :
    OpC P L E ⟨dst, .call { callee := .value (.func f), args := xs.toArray, argTypes := tys }, ty, pos, after, gd⟩ T (fun v => L ++ [R v]) := by
  intro a w G S hs ho ht K Q k
  simp only [Oper.wp, run_call_func w hf.enter, Oper.upon_enter]
  refine (hf.calls _ w G _ hs (Owns.none G w) (Opds.args xs A hx (fun x hx' => ht x (by simp [Op.operands, Call.operands, hx'])))).mono ?_
  rintro e w' ⟨v, G', S', rfl, hext, ho', hs', hT⟩
  have hext0 : Ext noZ G w G' w' := ⟨hext.sat, hext.le, hext.os, hext.tape, hext.output, hext.size, fun b hb _ => hext.blk b hb (fun ⟨_, h⟩ => h)⟩
  refine k v w' G' _ ⟨hext.sat, hext.le, hext.os, hext.tape, hext.output, hext.size, fun b hb _ => hext0.blk b hb (fun z => z)⟩ (ho.snoc hext0 _ (S' 0) (fun b hb => ⟨(hs' 0 b hb).elim id (fun ⟨_, h⟩ => h.elim), ho'.bound 0 b hb⟩) (ho'.res 0 _ rfl)) ?_ hT
  intro i b hb'
  by_cases hi : i = L.length
  · simp only [hi, if_true] at hb'; exact .inl ((hs' 0 b hb').elim id (fun ⟨_, h⟩ => h.elim))
  · simp only [hi, if_false] at hb'; exact .inr ⟨i, hb'⟩
end
end Go.Vk
