/-
  Arguments that are bytes: the list of bytes that a row of numbers stands for. Nothing here speaks of a program; no conditions.
  Arguments as data: from the form's reading of a value to the logic's types, with the bounds that the reach gives. Nothing here speaks of a program; no conditions.
  Arguments as data, of types that hold themselves: the form's reading, so deep. Nothing here speaks of a program; no conditions.
  The steps of the rules with and without a guard in one form. Nothing here speaks of a program; no conditions.
  Variables of one's own: a block of cells that may be written; its addresses, loads and stores; blocks that are laid for good. Nothing here speaks of a program; no conditions.
-/
import Derived.Test.YthjckklijlfghaaGac
import Derived.ProofKit
import Derived.OpenShut
import Derived.ShutString
import Derived.ChangeOld
import Derived.Below
import Derived.Carry
import Derived.SizedLaws
import Derived.Laws.CopyRow
set_option linter.unusedSimpArgs false
set_option linter.unusedVariables false
set_option linter.unusedVariables false
namespace Go.Vk
/-- The bytes of a row of numbers. -/
def bytesOf (zs : List Int) : List UInt8 := zs.map b8
theorem arg_u8 {G : Imm} {n : Int} (h : (Lit.int .u8 n).wf = true) : (okI .u8 ((b8 n).toNat : Int)).p G (.int .u8 n) := by
  have := wf_u8 h
  show Value.int .u8 n = .int .u8 _
  rw [b8_of (by omega)]
theorem arg_bytes {w : World} {a : Option Addr} {len cap : Nat} {zs : List Int} (h : (a = none ∧ len = 0 ∧ cap = 0 ∧ zs = []) ∨
    ∃ x, a = some x ∧ len ≤ cap ∧ cap ≤ maxLen ∧ zs.length = cap ∧ (∀ i, i < zs.length → w.cell? (x.add i) = some (.int .u8 (zs.getD i 0))) ∧ ∀ n ∈ zs, (Lit.int .u8 n).wf = true) : (TBytes (bytesOf (zs.take len))).p (heapImm w) (.slice a len cap) := by
  rcases h with ⟨rfl, rfl, rfl, rfl⟩ | ⟨x, rfl, hl, hm, hz, hc, hw⟩
  · exact TSlX.sl (nil_sl 1 cB _)
  · have hlen : (bytesOf (zs.take len)).length = len := by simp [bytesOf]; omega
    refine ⟨some x, cap, by rw [hlen], by omega, hm, (fun e => by cases e), (fun e => by cases e), fun ad e => ?_⟩
    cases e
    by_cases h0 : zs.length = 0
    · exact ⟨fun hp => by omega, fun i y hy => by have := (List.getElem?_eq_some_iff.1 hy).1; omega⟩
    · have hspot : x.spot = none := by
        have := hc 0 (by omega)
        simpa [Addr.add] using World.cell?_spot this
      refine ⟨fun _ => hspot, fun i y hy => ?_⟩
      have hi : i < len := by have := (List.getElem?_eq_some_iff.1 hy).1; omega
      refine ⟨rfl, fun j T hj => ?_⟩
      cases j with
      | succ j => simp [cB] at hj
      | zero =>
        simp only [cB, List.getElem?_cons_zero, Option.some.injEq] at hj
        subst hj
        have hzi : zs[i]? = some (zs.getD i 0) := by
          rw [List.getD_eq_getElem?_getD, List.getElem?_eq_getElem (by omega)]; rfl
        have hy' : y = b8 (zs.getD i 0) := by
          simp only [bytesOf, List.getElem?_map, List.getElem?_take, hi, if_true, hzi, Option.map_some, Option.some.injEq] at hy
          exact hy.symm
        have hwf := wf_u8 (hw _ (List.mem_of_getElem? hzi))
        refine ⟨.int .u8 (zs.getD i 0), ?_, ?_, rfl⟩
        · have := hc i (by omega)
          obtain ⟨b, o, sp⟩ := x
          simp only at hspot; subst hspot
          show w.cell? _ = _
          rw [← this]
          unfold Addr.add
          split
          · subst i; simp
          · simp
        · show Value.int .u8 _ = .int .u8 _
          rw [hy', b8_of (by omega)]
end Go.Vk
set_option linter.unusedVariables false
namespace Go.Vk
/-- Whatever reads as a t reads as some a, cell by cell. -/
structure Opn (P : Program) (t : TypeId) {α : Type} (f : α → List Ty) (ok : α → Prop) : Prop where
  size : ∀ a, (f a).length = P.cellsOf t
  go : ∀ {H : Type} (enc : TypeId × Value → H) (W : World) (fuel : Nat) (cs : List Value) (x : DataW H × List MemPlace), DataW.trod enc P W 0 (fun _ => true) true fuel t cs = some x → (∀ n ∈ x.1.weights P t, n ≤ reachBytes) →
    ∃ a, ok a ∧ cs.length = (f a).length ∧ ∀ (j : Nat) (T : Ty) (u : Value), (f a)[j]? = some T → cs[j]? = some u → T.p (heapImm W) u ∧ u.oneCell' = true
section
variable {P : Program} {t : TypeId}
theorem one_at {T : Ty} {v : Value} {G : Imm} (h : T.p G v) (h1 : v.oneCell' = true) : ∀ (j : Nat) (U : Ty) (u : Value), [T][j]? = some U → [v][j]? = some u → U.p G u ∧ u.oneCell' = true := by
  intro j U u hj hu
  cases j with
  | zero => simp at hj hu; subst hj; subst hu; exact ⟨h, h1⟩
  | succ j => simp at hj
theorem Opn.str (ht : P.underlying t = some .string) (hs : P.cellsOf t = 1) : Opn P t cS (fun l => l.length ≤ reachBytes) where
  size := fun _ => hs.symm
  go := by
    intro H enc W fuel cs x h hw
    obtain ⟨s, rfl, rfl, hm⟩ := DataW.trod_string ht h
    refine ⟨s.data.toList, hw _ (by simp [DataW.weights]), rfl, one_at ?_ rfl⟩
    show Value.string s = .string _
    simp
theorem Opn.int {k : IntKind} (ht : P.underlying t = some (.int k)) (hs : P.cellsOf t = 1) : Opn P t (fun n : Int => [okI k n]) (fun n => (Lit.int k n).wf = true) where
  size := fun _ => hs.symm
  go := by
    intro H enc W fuel cs x h hw
    obtain ⟨n, rfl, rfl, hm⟩ := DataW.trod_int ht h
    exact ⟨n, hm, rfl, one_at rfl rfl⟩
theorem Opn.byte (ht : P.underlying t = some (.int .u8)) (hs : P.cellsOf t = 1) : Opn P t cB (fun _ => True) where
  size := fun _ => hs.symm
  go := by
    intro H enc W fuel cs x h hw
    obtain ⟨n, rfl, rfl, hm⟩ := DataW.trod_int ht h
    exact ⟨b8 n, trivial, rfl, one_at (arg_u8 hm) rfl⟩
theorem Opn.bool (ht : P.underlying t = some .bool) (hs : P.cellsOf t = 1) : Opn P t (fun b : Bool => [Is (.bool b)]) (fun _ => True) where
  size := fun _ => hs.symm
  go := by
    intro H enc W fuel cs x h hw
    obtain ⟨b, rfl, rfl⟩ := DataW.trod_bool ht h
    exact ⟨b, trivial, rfl, one_at rfl rfl⟩
theorem Opn.map {α β : Type} {f : α → List Ty} {ok : α → Prop} (h : Opn P t f ok) (g : α → β) {f' : β → List Ty} {ok' : β → Prop} (hs : ∀ b, (f' b).length = P.cellsOf t) (hf : ∀ a, f' (g a) = f a) (hok : ∀ a, ok a → ok' (g a)) : Opn P t f' ok' where
  size := hs
  go := by
    intro H enc W fuel cs x hx hw
    obtain ⟨a, h1, h2, h3⟩ := h.go enc W fuel cs x hx hw
    refine ⟨g a, hok a h1, by rw [hf]; exact h2, by rw [hf]; exact h3⟩
theorem add_none (b o n : Nat) : (⟨b, o, none⟩ : Addr).add n = ⟨b, o + n, none⟩ := by
  unfold Addr.add
  split
  · rename_i h; simp [h]
  · rfl
theorem weightsAll_mem {H : Type} {e : TypeId} : ∀ {ds : List (DataW H)} {d : DataW H}, d ∈ ds → ∀ n ∈ d.weights P e, n ∈ DataW.weightsAll P e ds
  | d0 :: ds, d, hd, n, hn => by
    simp only [DataW.weightsAll, List.mem_append]
    rcases List.mem_cons.1 hd with rfl | hd
    · exact .inl hn
    · exact .inr (weightsAll_mem hd n hn)
theorem Opn.slice {e : TypeId} {α : Type} {f : α → List Ty} {ok : α → Prop} (h : Opn P e f ok) (ht : P.underlying t = some (.slice e)) (hs : P.cellsOf t = 1) (hz : Nat.blt 0 (P.cellsOf e) = true) : Opn P t (cL (P.cellsOf e) f) (fun l => l.length * P.bytesOf e ≤ reachBytes ∧ ∀ a ∈ l, ok a) where
  size := fun _ => hs.symm
  go := by
    intro H enc W fuel cs x hx hw
    have hz : 0 < P.cellsOf e := Nat.le_of_ble_eq_true hz
    rcases DataW.trod_slice ht hx with ⟨rfl, rfl⟩ | ⟨a, len, cap, elems, rest, n, rfl, rfl, rfl, _, hlc, hcm, hel, hget, _, _⟩
    · exact ⟨[], ⟨by simp, by simp⟩, rfl, one_at (TSlX.sl (nil_sl _ f _)) rfl⟩
    · have key : ∀ i : Fin len, ∃ y : α, ok y ∧ ∃ cs', W.cells? 0 (a.add (i.val * P.cellsOf e)) (P.cellsOf e) = some cs' ∧ ∀ (j : Nat) (T : Ty) (u : Value), (f y)[j]? = some T → cs'[j]? = some u → T.p (heapImm W) u ∧ u.oneCell' = true := by
        intro i
        have hi := hget i.val i.isLt
        have hlt : i.val < elems.length := by rw [hel]; exact i.isLt
        rw [List.getElem?_eq_getElem hlt, Option.bind_eq_some_iff] at hi
        obtain ⟨cs', h1, h2⟩ := hi
        obtain ⟨y, g1, g2, g3⟩ := h.go enc W n cs' _ h2 (fun m hm => hw m (by
          simp only [DataW.weights, ht]
          refine List.mem_cons_of_mem _ (List.mem_append_left _ ?_)
          exact weightsAll_mem (List.mem_map.2 ⟨_, List.getElem_mem hlt, rfl⟩) m hm))
        exact ⟨y, g1, cs', h1, g3⟩
      let l : List α := List.ofFn fun i : Fin len => (key i).choose
      have hll : l.length = len := by simp [l]
      have hl : ∀ (i : Nat) (y : α), l[i]? = some y → ∃ hi : i < len, y = (key ⟨i, hi⟩).choose := by
        intro i y hy
        have hi : i < len := by have := (List.getElem?_eq_some_iff.1 hy).1; omega
        refine ⟨hi, ?_⟩
        simp only [l, List.getElem?_ofFn, hi, dite_true, Option.some.injEq] at hy
        exact hy.symm
      refine ⟨l, ⟨?_, ?_⟩, rfl, one_at ?_ rfl⟩
      · have := hw ((elems.length + rest.length) * P.bytesOf e) (by simp only [DataW.weights, ht, List.length_map]; exact List.mem_cons_self)
        have h2 : l.length * P.bytesOf e ≤ (elems.length + rest.length) * P.bytesOf e := Nat.mul_le_mul_right _ (by omega)
        omega
      · intro y hy
        obtain ⟨i, hi⟩ := List.mem_iff_getElem?.1 hy
        obtain ⟨hlt, rfl⟩ := hl i y hi
        exact (key ⟨i, hlt⟩).choose_spec.1
      · refine ⟨some a, cap, by rw [hll], by omega, hcm, (fun e => by cases e), (fun e => by cases e), fun ad e => ?_⟩
        cases e
        have hspot : 0 < len → a.spot = none := by
          intro hp
          obtain ⟨_, cs', h1, _⟩ := (key ⟨0, hp⟩).choose_spec
          have h2 := (World.cells?_some h1).2.2 0 hz
          have h3 : ∃ u, W.cell? ((a.add (0 * P.cellsOf e)).add 0) = some u := by
            have h4 := (World.cells?_some h1).2.1
            exact ⟨_, h2.trans (List.getElem?_eq_getElem (by omega))⟩
          obtain ⟨u, hu⟩ := h3
          have := World.cell?_spot hu
          simpa [Addr.add] using this
        refine ⟨fun hp => hspot (by omega), fun i y hy => ⟨h.size y, ?_⟩⟩
        obtain ⟨hlt, rfl⟩ := hl i y hy
        obtain ⟨_, cs', h1, h3⟩ := (key ⟨i, hlt⟩).choose_spec
        have hsp := hspot (by omega)
        intro j T hT
        have hj : j < P.cellsOf e := by have := (List.getElem?_eq_some_iff.1 hT).1; rw [h.size] at this; exact this
        have h5 := World.cells?_some h1
        have hcj : cs'[j]? = some cs'[j] := List.getElem?_eq_getElem (by omega)
        refine ⟨cs'[j], ?_, h3 j T _ hT hcj⟩
        have h6 := h5.2.2 j hj
        rw [hcj] at h6
        show W.cell? _ = _
        rw [← h6]
        obtain ⟨b, o, sp⟩ := a
        have hsp : sp = none := hsp
        subst hsp
        rw [add_none, add_none]
/-! ### structs -/
inductive OpnF (P : Program) : List Field → Nat → Nat → (α : Type) → (α → List Ty) → (α → Prop) → Prop
  | nil (off : Nat) : OpnF P [] off off Unit (fun _ => []) (fun _ => True)
  | cons {fd : Field} {fs : List Field} {off last : Nat} {A B : Type} {fa : A → List Ty} {oka : A → Prop} {fb : B → List Ty} {okb : B → Prop} (ho : fd.offset = off) (h : Opn P fd.type fa oka) (r : OpnF P fs (off + P.cellsOf fd.type) last B fb okb) : OpnF P (fd :: fs) off last (A × B) (fun p => fa p.1 ++ fb p.2) (fun p => oka p.1 ∧ okb p.2)
theorem OpnF.size {fs : List Field} {off last : Nat} {α : Type} {f : α → List Ty} {ok : α → Prop} (h : OpnF P fs off last α f ok) : ∀ a, off + (f a).length = last := by
  induction h with
  | nil off => intro a; simp
  | cons ho h r ih =>
    rintro ⟨a, b⟩
    have h1 := h.size a
    have h2 := ih b
    simp only [List.length_append]; omega
theorem OpnF.go {H : Type} {enc : TypeId × Value → H} {W : World} {fuel : Nat} {cs : List Value} {fs : List Field} {off last : Nat} {α : Type} {f : α → List Ty} {ok : α → Prop} (h : OpnF P fs off last α f ok) (hlen : cs.length = last) :
    ∀ (xs : List (DataW H × List MemPlace)), xs.length = fs.length → (∀ (i : Nat) (fd : Field), fs[i]? = some fd → DataW.trod enc P W 0 (fun _ => true) true fuel fd.type ((cs.drop fd.offset).take (P.cellsOf fd.type)) = xs[i]?) →
      (∀ n ∈ DataW.weightsEach P (fs.map (·.type)) (xs.map (·.1)), n ≤ reachBytes) →
      ∃ a, ok a ∧ ∀ (j : Nat) (T : Ty) (u : Value), (f a)[j]? = some T → cs[off + j]? = some u → T.p (heapImm W) u ∧ u.oneCell' = true := by
  induction h with
  | nil off => intro xs _ _ _; exact ⟨(), trivial, fun j T u hj => by simp at hj⟩
  | cons ho h r ih =>
    rename_i fd fs off last A B fa oka fb okb
    intro xs hl hx hw
    cases xs with
    | nil => simp at hl
    | cons x xs =>
      have h0 := hx 0 fd rfl
      simp only [List.getElem?_cons_zero] at h0
      obtain ⟨a, a1, a2, a3⟩ := h.go enc W fuel _ x h0 (fun n hn => hw n (by simp only [List.map_cons, DataW.weightsEach, List.mem_append]; exact .inl hn))
      obtain ⟨b, b1, b2⟩ := ih hlen xs (by simpa using hl) (fun i fd' hi => by
        have := hx (i + 1) fd' (by simpa using hi)
        simpa using this) (fun n hn => hw n (by simp only [List.map_cons, DataW.weightsEach, List.mem_append]; exact .inr hn))
      refine ⟨(a, b), ⟨a1, b1⟩, fun j T u hj hu => ?_⟩
      dsimp only at hj
      have hsz := h.size a
      by_cases hlt : j < (fa a).length
      · rw [List.getElem?_append_left hlt] at hj
        refine a3 j T u hj ?_
        rw [List.getElem?_take, List.getElem?_drop, if_pos (by omega), ho]
        exact hu
      · rw [List.getElem?_append_right (by omega)] at hj
        refine b2 _ T u hj ?_
        rw [← hu]
        congr 1; omega
theorem Opn.struct {fs : Array Field} {last : Nat} {α : Type} {f : α → List Ty} {ok : α → Prop} (ht : P.underlying t = some (.struct fs)) (hs : P.cellsOf t = last) (h : OpnF P fs.toList 0 last α f ok) : Opn P t f ok where
  size := fun a => by have := h.size a; omega
  go := by
    intro H enc W fuel cs x hx hw
    obtain ⟨xs, n, rfl, rfl, hl, hxl, hf⟩ := DataW.trod_struct ht hx
    obtain ⟨a, a1, a2⟩ := h.go (by omega) xs (by simpa using hxl) (fun i fd hi => hf i fd (by simpa using hi)) (fun n hn => hw n (by simp only [DataW.weights, ht]; exact hn))
    have hsz := h.size a
    exact ⟨a, a1, by omega, fun j T u hj hu => a2 j T u hj (by rw [Nat.zero_add]; exact hu)⟩
/-! ### arguments -/
section
variable {H : Type} {enc : TypeId × Value → H} {W : World} {v : Value} {d : DataW H} {ps : List MemPlace} {α : Type}
theorem Opn.one {T : α → Ty} {ok : α → Prop} (h : Opn P t (fun a => [T a]) ok) (hc : v.cells = #[v]) (hd : DataW.Trod enc P W 0 (fun _ => true) true t v d ps) (hw : ∀ n ∈ d.weights P t, n ≤ reachBytes) : ∃ a, ok a ∧ (T a).p (heapImm W) v := by
  obtain ⟨fuel, hf⟩ := hd
  obtain ⟨a, h1, h2, h3⟩ := h.go enc W fuel _ _ hf hw
  rw [hc] at h3
  exact ⟨a, h1, (h3 0 (T a) v rfl rfl).1⟩
theorem Opn.sl {e : TypeId} {sz : Nat} {f : α → List Ty} {ok : List α → Prop} {r : Reach} {b0 : Nat} (h : Opn P t (cL sz f) ok) (ht : P.underlying t = some (.slice e)) (hval : Value.okWide P W r b0 t v) (hd : DataW.Trod enc P W 0 (fun _ => true) true t v d ps) (hw : ∀ n ∈ d.weights P t, n ≤ reachBytes) : ∃ l, ok l ∧ (TSl sz f l).p (heapImm W) v := by
  obtain ⟨a, len, cap, rfl⟩ := WideShapes.okWide_slice ht hval
  exact Opn.one (T := fun l => TSl sz f l) h rfl hd hw
theorem Opn.st {ok : List UInt8 → Prop} {r : Reach} {b0 : Nat} (h : Opn P t cS ok) (ht : P.underlying t = some .string) (hval : Value.okWide P W r b0 t v) (hd : DataW.Trod enc P W 0 (fun _ => true) true t v d ps) (hw : ∀ n ∈ d.weights P t, n ≤ reachBytes) : ∃ l, ok l ∧ (Is (Vk.str l)).p (heapImm W) v := by
  obtain ⟨s, rfl⟩ := WideShapes.okWide_string ht hval
  exact Opn.one (T := fun l => Is (Vk.str l)) h rfl hd hw
theorem Opn.ag {fs : Array Field} {f : α → List Ty} {ok : α → Prop} {r : Reach} {b0 : Nat} (h : Opn P t f ok) (ht : P.underlying t = some (.struct fs)) (hval : Value.okWide P W r b0 t v) (hd : DataW.Trod enc P W 0 (fun _ => true) true t v d ps) (hw : ∀ n ∈ d.weights P t, n ≤ reachBytes) : ∃ a, ok a ∧ (TAgg (f a)).p (heapImm W) v := by
  obtain ⟨cs, rfl, hcs⟩ := WideShapes.okWide_struct ht hval
  obtain ⟨fuel, hf⟩ := hd
  obtain ⟨a, h1, h2, h3⟩ := h.go enc W fuel _ _ hf hw
  exact ⟨a, h1, cs.toList, by simp, by simpa [Value.cells] using h2, fun j T u hj hu => h3 j T u hj (by simpa [Value.cells] using hu)⟩
end
theorem weights_at {H : Type} {ts : List TypeId} {ds : List (DataW H)} (h : (DataW.weightsEach P ts ds).all (· ≤ reachBytes) = true) {j : Nat} {d : DataW H} (ht : ts[j]? = some t) (hd : ds[j]? = some d) : ∀ n ∈ d.weights P t, n ≤ reachBytes := fun n hn => by
  have := List.all_eq_true.1 h n (DataW.weights_mem_each ht hd n hn)
  simpa using this
theorem reach_le {n : Nat} (h : n ≤ reachBytes) : n ≤ 140737488351232 := h
end
end Go.Vk
set_option linter.unusedVariables false
namespace Go.Vk
/-- Opn, of readings no deeper than N. -/
structure OpnN (N : Nat) (P : Program) (t : TypeId) {α : Type} (f : α → List Ty) (ok : α → Prop) : Prop where
  size : ∀ a, (f a).length = P.cellsOf t
  go : ∀ {H : Type} (enc : TypeId × Value → H) (W : World) (fuel : Nat) (cs : List Value) (x : DataW H × List MemPlace), fuel ≤ N → DataW.trod enc P W 0 (fun _ => true) true fuel t cs = some x → (∀ n ∈ x.1.weights P t, n ≤ reachBytes) →
    ∃ a, ok a ∧ cs.length = (f a).length ∧ ∀ (j : Nat) (T : Ty) (u : Value), (f a)[j]? = some T → cs[j]? = some u → T.p (heapImm W) u ∧ u.oneCell' = true
section
variable {P : Program} {t : TypeId} {N : Nat}
theorem Opn.toN {α : Type} {f : α → List Ty} {ok : α → Prop} (h : Opn P t f ok) : OpnN N P t f ok := ⟨h.size, fun enc W fuel cs x _ hx hw => h.go enc W fuel cs x hx hw⟩
theorem OpnN.all {α : Type} {f : α → List Ty} {ok : α → Prop} (h : ∀ N, OpnN N P t f ok) : Opn P t f ok := ⟨(h 0).size, fun enc W fuel cs x hx hw => (h fuel).go enc W fuel cs x (Nat.le_refl _) hx hw⟩
theorem OpnN.map {α β : Type} {f : α → List Ty} {ok : α → Prop} (h : OpnN N P t f ok) (g : α → β) {f' : β → List Ty} {ok' : β → Prop} (hs : ∀ b, (f' b).length = P.cellsOf t) (hf : ∀ a, f' (g a) = f a) (hok : ∀ a, ok a → ok' (g a)) : OpnN N P t f' ok' where
  size := hs
  go := by
    intro H enc W fuel cs x hN hx hw
    obtain ⟨a, h1, h2, h3⟩ := h.go enc W fuel cs x hN hx hw
    refine ⟨g a, hok a h1, by rw [hf]; exact h2, by rw [hf]; exact h3⟩
theorem OpnN.slice {e : TypeId} {α : Type} {f : α → List Ty} {ok : α → Prop} (h : OpnN N P e f ok) (ht : P.underlying t = some (.slice e)) (hs : P.cellsOf t = 1) (hz : Nat.blt 0 (P.cellsOf e) = true) : OpnN (N + 1) P t (cL (P.cellsOf e) f) (fun l => l.length * P.bytesOf e ≤ reachBytes ∧ ∀ a ∈ l, ok a) where
  size := fun _ => hs.symm
  go := by
    intro H enc W fuel cs x hN hx hw
    have hz : 0 < P.cellsOf e := Nat.le_of_ble_eq_true hz
    rcases DataW.trod_slice ht hx with ⟨rfl, rfl⟩ | ⟨a, len, cap, elems, rest, n, rfl, rfl, rfl, _, hlc, hcm, hel, hget, _, _⟩
    · exact ⟨[], ⟨by simp, by simp⟩, rfl, one_at (TSlX.sl (nil_sl _ f _)) rfl⟩
    · have key : ∀ i : Fin len, ∃ y : α, ok y ∧ ∃ cs', W.cells? 0 (a.add (i.val * P.cellsOf e)) (P.cellsOf e) = some cs' ∧ ∀ (j : Nat) (T : Ty) (u : Value), (f y)[j]? = some T → cs'[j]? = some u → T.p (heapImm W) u ∧ u.oneCell' = true := by
        intro i
        have hi := hget i.val i.isLt
        have hlt : i.val < elems.length := by rw [hel]; exact i.isLt
        rw [List.getElem?_eq_getElem hlt, Option.bind_eq_some_iff] at hi
        obtain ⟨cs', h1, h2⟩ := hi
        obtain ⟨y, g1, g2, g3⟩ := h.go enc W n cs' _ (by omega) h2 (fun m hm => hw m (by
          simp only [DataW.weights, ht]
          refine List.mem_cons_of_mem _ (List.mem_append_left _ ?_)
          exact weightsAll_mem (List.mem_map.2 ⟨_, List.getElem_mem hlt, rfl⟩) m hm))
        exact ⟨y, g1, cs', h1, g3⟩
      let l : List α := List.ofFn fun i : Fin len => (key i).choose
      have hll : l.length = len := by simp [l]
      have hl : ∀ (i : Nat) (y : α), l[i]? = some y → ∃ hi : i < len, y = (key ⟨i, hi⟩).choose := by
        intro i y hy
        have hi : i < len := by have := (List.getElem?_eq_some_iff.1 hy).1; omega
        refine ⟨hi, ?_⟩
        simp only [l, List.getElem?_ofFn, hi, dite_true, Option.some.injEq] at hy
        exact hy.symm
      refine ⟨l, ⟨?_, ?_⟩, rfl, one_at ?_ rfl⟩
      · have := hw ((elems.length + rest.length) * P.bytesOf e) (by simp only [DataW.weights, ht, List.length_map]; exact List.mem_cons_self)
        have h2 : l.length * P.bytesOf e ≤ (elems.length + rest.length) * P.bytesOf e := Nat.mul_le_mul_right _ (by omega)
        omega
      · intro y hy
        obtain ⟨i, hi⟩ := List.mem_iff_getElem?.1 hy
        obtain ⟨hlt, rfl⟩ := hl i y hi
        exact (key ⟨i, hlt⟩).choose_spec.1
      · refine ⟨some a, cap, by rw [hll], by omega, hcm, (fun e => by cases e), (fun e => by cases e), fun ad e => ?_⟩
        cases e
        have hspot : 0 < len → a.spot = none := by
          intro hp
          obtain ⟨_, cs', h1, _⟩ := (key ⟨0, hp⟩).choose_spec
          have h2 := (World.cells?_some h1).2.2 0 hz
          have h3 : ∃ u, W.cell? ((a.add (0 * P.cellsOf e)).add 0) = some u := by
            have h4 := (World.cells?_some h1).2.1
            exact ⟨_, h2.trans (List.getElem?_eq_getElem (by omega))⟩
          obtain ⟨u, hu⟩ := h3
          have := World.cell?_spot hu
          simpa [Addr.add] using this
        refine ⟨fun hp => hspot (by omega), fun i y hy => ⟨h.size y, ?_⟩⟩
        obtain ⟨hlt, rfl⟩ := hl i y hy
        obtain ⟨_, cs', h1, h3⟩ := (key ⟨i, hlt⟩).choose_spec
        have hsp := hspot (by omega)
        intro j T hT
        have hj : j < P.cellsOf e := by have := (List.getElem?_eq_some_iff.1 hT).1; rw [h.size] at this; exact this
        have h5 := World.cells?_some h1
        have hcj : cs'[j]? = some cs'[j] := List.getElem?_eq_getElem (by omega)
        refine ⟨cs'[j], ?_, h3 j T _ hT hcj⟩
        have h6 := h5.2.2 j hj
        rw [hcj] at h6
        show W.cell? _ = _
        rw [← h6]
        obtain ⟨b, o, sp⟩ := a
        have hsp : sp = none := hsp
        subst hsp
        rw [add_none, add_none]
/-! ### structs -/
inductive OpnFN (N : Nat) (P : Program) : List Field → Nat → Nat → (α : Type) → (α → List Ty) → (α → Prop) → Prop
  | nil (off : Nat) : OpnFN N P [] off off Unit (fun _ => []) (fun _ => True)
  | cons {fd : Field} {fs : List Field} {off last : Nat} {A B : Type} {fa : A → List Ty} {oka : A → Prop} {fb : B → List Ty} {okb : B → Prop} (ho : fd.offset = off) (h : OpnN N P fd.type fa oka) (r : OpnFN N P fs (off + P.cellsOf fd.type) last B fb okb) : OpnFN N P (fd :: fs) off last (A × B) (fun p => fa p.1 ++ fb p.2) (fun p => oka p.1 ∧ okb p.2)
theorem OpnFN.size {fs : List Field} {off last : Nat} {α : Type} {f : α → List Ty} {ok : α → Prop} (h : OpnFN N P fs off last α f ok) : ∀ a, off + (f a).length = last := by
  induction h with
  | nil off => intro a; simp
  | cons ho h r ih =>
    rintro ⟨a, b⟩
    have h1 := h.size a
    have h2 := ih b
    simp only [List.length_append]; omega
theorem OpnFN.go {H : Type} {enc : TypeId × Value → H} {W : World} {fuel : Nat} {cs : List Value} {fs : List Field} {off last : Nat} {α : Type} {f : α → List Ty} {ok : α → Prop} (h : OpnFN N P fs off last α f ok) (hN : fuel ≤ N) (hlen : cs.length = last) :
    ∀ (xs : List (DataW H × List MemPlace)), xs.length = fs.length → (∀ (i : Nat) (fd : Field), fs[i]? = some fd → DataW.trod enc P W 0 (fun _ => true) true fuel fd.type ((cs.drop fd.offset).take (P.cellsOf fd.type)) = xs[i]?) →
      (∀ n ∈ DataW.weightsEach P (fs.map (·.type)) (xs.map (·.1)), n ≤ reachBytes) →
      ∃ a, ok a ∧ ∀ (j : Nat) (T : Ty) (u : Value), (f a)[j]? = some T → cs[off + j]? = some u → T.p (heapImm W) u ∧ u.oneCell' = true := by
  induction h with
  | nil off => intro xs _ _ _; exact ⟨(), trivial, fun j T u hj => by simp at hj⟩
  | cons ho h r ih =>
    rename_i fd fs off last A B fa oka fb okb
    intro xs hl hx hw
    cases xs with
    | nil => simp at hl
    | cons x xs =>
      have h0 := hx 0 fd rfl
      simp only [List.getElem?_cons_zero] at h0
      obtain ⟨a, a1, a2, a3⟩ := h.go enc W fuel _ x hN h0 (fun n hn => hw n (by simp only [List.map_cons, DataW.weightsEach, List.mem_append]; exact .inl hn))
      obtain ⟨b, b1, b2⟩ := ih hlen xs (by simpa using hl) (fun i fd' hi => by
        have := hx (i + 1) fd' (by simpa using hi)
        simpa using this) (fun n hn => hw n (by simp only [List.map_cons, DataW.weightsEach, List.mem_append]; exact .inr hn))
      refine ⟨(a, b), ⟨a1, b1⟩, fun j T u hj hu => ?_⟩
      dsimp only at hj
      have hsz := h.size a
      by_cases hlt : j < (fa a).length
      · rw [List.getElem?_append_left hlt] at hj
        refine a3 j T u hj ?_
        rw [List.getElem?_take, List.getElem?_drop, if_pos (by omega), ho]
        exact hu
      · rw [List.getElem?_append_right (by omega)] at hj
        refine b2 _ T u hj ?_
        rw [← hu]
        congr 1; omega
theorem OpnN.struct {fs : Array Field} {last : Nat} {α : Type} {f : α → List Ty} {ok : α → Prop} (ht : P.underlying t = some (.struct fs)) (hs : P.cellsOf t = last) (h : OpnFN N P fs.toList 0 last α f ok) : OpnN (N + 1) P t f ok where
  size := fun a => by have := h.size a; omega
  go := by
    intro H enc W fuel cs x hN hx hw
    obtain ⟨xs, n, rfl, rfl, hl, hxl, hf⟩ := DataW.trod_struct ht hx
    obtain ⟨a, a1, a2⟩ := h.go (by omega) (by omega) xs (by simpa using hxl) (fun i fd hi => hf i fd (by simpa using hi)) (fun n hn => hw n (by simp only [DataW.weights, ht]; exact hn))
    have hsz := h.size a
    exact ⟨a, a1, by omega, fun j T u hj hu => a2 j T u hj (by rw [Nat.zero_add]; exact hu)⟩
/-- Nothing reads at depth nought. -/
theorem OpnN.none {α : Type} {f : α → List Ty} {ok : α → Prop} {fs : Array Field} (hs : ∀ a, (f a).length = P.cellsOf t) (ht : P.underlying t = some (.struct fs)) : OpnN 0 P t f ok where
  size := hs
  go := by
    intro H enc W fuel cs x hN hx hw
    obtain ⟨xs, n, h, _⟩ := DataW.trod_struct ht hx
    omega
theorem OpnN.less {α : Type} {f : α → List Ty} {ok : α → Prop} {M : Nat} (h : OpnN M P t f ok) (hNM : N ≤ M) : OpnN N P t f ok := ⟨h.size, fun enc W fuel cs x hN hx hw => h.go enc W fuel cs x (Nat.le_trans hN hNM) hx hw⟩
end
end Go.Vk
set_option linter.unusedVariables false
namespace Go.Vk
section
variable {F : FCtx} {E : Env} {L : List Res} {Q : Exit → Act → World → Prop} {ops : Array Oper} {o : Oper} {rest : List Oper} {fin : Env → Prop}
theorem RegS.fq {d : Nat} {op : Op} {ty : TypeId} {pos : String} {after : Array Edge} (hd : Nat.blt d F.N = true) (h : ∃ T, (True → OpP F.P L E ⟨some d, op, ty, pos, after, none⟩ T) ∧ RegS F ops Q rest ((d, T) :: E) L) : RegS F ops Q (⟨some d, op, ty, pos, after, none⟩ :: rest) E L := let ⟨_, h1, h2⟩ := h; .f hd rfl (h1 trivial) h2
theorem RegS.fnq {op : Op} {ty : TypeId} {pos : String} {after : Array Edge} (h : ∃ T, (True → OpP F.P L E ⟨none, op, ty, pos, after, none⟩ T) ∧ RegS F ops Q rest E L) : RegS F ops Q (⟨none, op, ty, pos, after, none⟩ :: rest) E L := let ⟨_, h1, h2⟩ := h; .f rfl rfl (h1 trivial) h2
theorem RegA.fq {d : Nat} {op : Op} {ty : TypeId} {pos : String} {after : Array Edge} (hd : Nat.blt d F.N = true) (h : ∃ T, (True → OpP F.P L E ⟨some d, op, ty, pos, after, none⟩ T) ∧ RegA F ops L fin rest ((d, T) :: E)) : RegA F ops L fin (⟨some d, op, ty, pos, after, none⟩ :: rest) E :=
  let ⟨T, h1, h2⟩ := h; ⟨T, hd, .free rfl (h1 trivial), h2⟩
theorem RegA.fnq {op : Op} {ty : TypeId} {pos : String} {after : Array Edge} (h : ∃ T, (True → OpP F.P L E ⟨none, op, ty, pos, after, none⟩ T) ∧ RegA F ops L fin rest E) : RegA F ops L fin (⟨none, op, ty, pos, after, none⟩ :: rest) E :=
  let ⟨T, h1, h2⟩ := h; ⟨T, rfl, .free rfl (h1 trivial), h2⟩
end
section
variable {P : Program} {L : List Res} {E : Env} {dst : Option Tmp} {ty : TypeId} {pos : String} {after : Array Edge} {gd : Option (Nat × Bool)}
theorem exCall {f : FuncId} {A : List Ty} {T : Ty} {xs : List Operand} {tys : Array TypeId} {c : Prop} {K : Ty → Prop} (hx : Opds E xs A) (hf : c → CFn P f A T) (k : K T) :
    ∃ T, (c → OpP P L E ⟨dst, .call { callee := .value (.func f), args := xs.toArray, argTypes := tys }, ty, pos, after, gd⟩ T) ∧ K T := ⟨T, fun h => op_call (hf h) hx, k⟩
theorem exCallS {f : FuncId} {A : List Ty} {T : Ty} {xs : List Operand} {tys : Array TypeId} {c : Prop} {K : Ty → Prop} (hf : c → CFn P f A T) (zxs : OpdsS E xs A) (k : K T) :
    ∃ T, (c → OpP P L E ⟨dst, .call { callee := .value (.func f), args := xs.toArray, argTypes := tys }, ty, pos, after, gd⟩ T) ∧ K T := ⟨T, fun h => op_callS (hf h) zxs, k⟩
theorem Opds.nil : Opds E [] [] := trivial
theorem Opds.cons {x : Operand} {xs : List Operand} {T : Ty} {A : List Ty} (h : Opd E x = some T) (k : Opds E xs A) : Opds E (x :: xs) (T :: A) := ⟨h, k⟩
theorem OpdsS.nil : OpdsS E [] [] := trivial
theorem OpdsS.cons {x : Operand} {xs : List Operand} {T U : Ty} {A : List Ty} (h : Opd E x = some U) (hs : Sub U T) (k : OpdsS E xs A) : OpdsS E (x :: xs) (T :: A) := ⟨⟨U, h, hs⟩, k⟩
theorem isSub {T U : Ty} (h : Sub T U) : Sub T U := h
end
end Go.Vk
set_option linter.unusedVariables false
namespace Go.Vk

/-- The address of a cell. -/
abbrev pAt (g o : Nat) : Value := .pointer (some ⟨g, o, none⟩)
/-- The block that a pointer points into. -/
def blk : Value → Nat
  | .pointer (some a) => a.block
  | _ => 0
theorem blk_pAt (g o : Nat) : blk (pAt g o) = g := rfl
/-- A block of one's own: its cells are as ts says. -/
def ownP (g : Nat) (e : TypeId) (ts : List Ty) : Res where
  p S G w := (∀ b, S b ↔ b = g) ∧ (∃ cs, w.heap[g]? = some (.cells cs e (0, 0)) ∧ cs.size = ts.length ∧ ∀ (j : Nat) (T : Ty), ts[j]? = some T → ∃ u, cs[j]? = some u ∧ T.p G u ∧ u.oneCell' = true) ∧ ∀ o, G g o = none
  loc := by
    rintro S G w G' w' ⟨h1, ⟨cs, h2, h3, h4⟩, h5⟩ hle hb
    obtain ⟨e1, e2⟩ := hb g ((h1 g).2 rfl)
    exact ⟨h1, ⟨cs, by rw [e1]; exact h2, h3, fun j T hj => let ⟨u, a, b, c⟩ := h4 j T hj; ⟨u, a, T.mono hle b, c⟩⟩, fun o => by rw [e2]; exact h5 o⟩

/-- A value of type T takes one cell. -/
def One (T : Ty) : Prop := ∀ G v, T.p G v → v.oneCell' = true
theorem One.is {v : Value} (h : v.oneCell' = true) : One (Is v) := fun _ _ k => by cases k; exact h
theorem One.sl {α : Type} (sz : Nat) (f : α → List Ty) (l : List α) : One (TSl sz f l) := fun _ _ ⟨_, _, e, _⟩ => by rw [e]; rfl
theorem One.slx {α : Type} (sz : Nat) (f : α → List Ty) (l : List α) : One (TSlX sz f l) := fun _ _ ⟨_, _, e, _⟩ => by rw [e]; rfl
theorem One.andR {T U : Ty} (h : One U) : One (TAnd T U) := fun _ _ k => h _ _ k.2
theorem One.pc (ts : List Ty) : One (TPc ts) := fun _ _ ⟨_, _, e, _⟩ => by rw [e]; rfl

/-- Where a field lies. -/
def fieldOff (P : Program) (s : TypeId) (i : Nat) : Option Nat :=
  match P.underlying s with
  | some (.struct fields) => (match fields[i]? with
    | some f => (match P.info? f.type with
      | some inf => if inf.size = 0 then none else some f.offset
      | none => none)
    | none => none)
  | _ => none
def aggB (P : Program) (t : TypeId) : Option Bool :=
  match P.underlying t with
  | some (.struct _) => some true
  | some (.array _ _) => some true
  | some _ => some false
  | none => none

section
variable {P : Program} {L : List Res} {E : Env} {dst : Option Tmp} {ty : TypeId} {pos : String} {after : Array Edge} {gd : Option (Nat × Bool)}

theorem run_isAgg {t : TypeId} {b : Bool} (h : aggB P t = some b) (w : World) : (isAgg t).run P w = .ok b w := by
  unfold aggB at h
  cases hu : P.underlying t with
  | none => rw [hu] at h; cases h
  | some d =>
    rw [hu] at h
    unfold isAgg
    rw [Sem.run_bind, run_underlying hu w]
    cases d <;> simp_all
theorem run_sizeOf {t : TypeId} {n : Nat} (h : (P.info? t).map (·.size) = some n) (w : World) : (sizeOf t).run P w = .ok n w := by
  cases hq : P.info? t with
  | none => rw [hq] at h; cases h
  | some i => rw [hq] at h; simp at h; simp [sizeOf, typeInfo, hq, h]
theorem run_zeroValue {t : TypeId} {z : Value} (h : (P.info? t).map (·.zero) = some (some z)) (w : World) : (zeroValue t).run P w = .ok z w := by
  cases hq : P.info? t with
  | none => rw [hq] at h; cases h
  | some i => rw [hq] at h; simp at h; simp [zeroValue, typeInfo, hq, h]
theorem run_fieldAt (w : World) {s : TypeId} {i off : Nat} (h : fieldOff P s i = some off) (g o : Nat) : (Instr.fieldAt s (pAt g o) i).run P w = .ok (pAt g (o + off)) w := by
  unfold fieldOff at h
  cases hu : P.underlying s with
  | none => rw [hu] at h; cases h
  | some d =>
    rw [hu] at h
    cases d <;> try (simp at h)
    rename_i fields
    cases hf : fields[i]? with
    | none => rw [hf] at h; cases h
    | some f =>
      rw [hf] at h
      dsimp only at h
      cases hi : P.info? f.type with
      | none => rw [hi] at h; cases h
      | some inf =>
        rw [hi] at h
        dsimp only at h
        by_cases h0 : inf.size = 0
        · rw [if_pos h0] at h; cases h
        · rw [if_neg h0] at h
          simp only [Option.some.injEq] at h
          subst h
          have hsz := run_sizeOf (P := P) (t := f.type) (n := inf.size) (by rw [hi]; rfl) w
          have hadd : (⟨g, o, none⟩ : Addr).add f.offset = ⟨g, o + f.offset, none⟩ := by unfold Addr.add; split <;> simp_all
          unfold Instr.fieldAt
          simp only [Sem.run_bind, run_underlying hu w, Result.andThen_ok, hf]
          simp [Instr.sureAddr, fieldPlace, hsz, h0, hadd]

/-! ### addresses -/
theorem op_nilP {x : Operand} {g o : Nat} (hx : Opd E x = some (Is (pAt g o))) : OpP P L E ⟨dst, .nilCheck x, ty, pos, after, gd⟩ (Is (pAt g o)) :=
  OpP.same fun a w G S _ _ h => by
    have h1 : a.eval x = pAt g o := h x (by simp [Op.operands]) _ hx
    exact ⟨pAt g o, by simp [execOp, h1], rfl⟩
theorem op_nilC {x : Operand} {ts : List Ty} (hx : Opd E x = some (TPc ts)) : OpP P L E ⟨dst, .nilCheck x, ty, pos, after, gd⟩ (TPc ts) :=
  OpP.same fun a w G S _ _ h => by
    obtain ⟨b, o, h1, h2⟩ := h x (by simp [Op.operands]) _ hx
    exact ⟨pAt b o, by simp [execOp, h1], b, o, rfl, h2⟩
theorem op_faddrP {x : Operand} {g o off o' : Nat} {s : TypeId} {i : Nat} (hx : Opd E x = some (Is (pAt g o))) (hf : fieldOff P s i = some off) (ho : o + off = o') : OpP P L E ⟨dst, .fieldAddr s x i, ty, pos, after, gd⟩ (Is (pAt g o')) :=
  OpP.same fun a w G S _ _ h => by
    have h1 : a.eval x = pAt g o := h x (by simp [Op.operands]) _ hx
    subst ho
    refine ⟨pAt g (o + off), ?_, rfl⟩
    simp only [execOp, h1]
    simp [run_fieldAt w hf]
theorem op_faddrC {x : Operand} {ts ts' : List Ty} {off : Nat} {s : TypeId} {i : Nat} (hx : Opd E x = some (TPc ts)) (hf : fieldOff P s i = some off) (ht : ts.drop off = ts') : OpP P L E ⟨dst, .fieldAddr s x i, ty, pos, after, gd⟩ (TPc ts') :=
  OpP.same fun a w G S _ _ h => by
    obtain ⟨b, o, h1, h2⟩ := h x (by simp [Op.operands]) _ hx
    refine ⟨pAt b (o + off), ?_, b, o + off, rfl, ?_⟩
    · simp only [execOp, h1]
      simp [run_fieldAt w hf]
    · subst ht
      intro j T hj
      rw [List.getElem?_drop] at hj
      have := h2 _ _ hj
      rwa [show o + off + j = o + (off + j) from by omega]
theorem op_loadN {x : Operand} {ts ts' : List Ty} {n : Nat} {t : TypeId} (hx : Opd E x = some (TPc ts)) (hag : aggB P t = some true) (hsz : (P.info? t).map (·.size) = some n) (ht : ts.take n = ts') (hn : ts'.length = n) : OpP P L E ⟨dst, .load t x, ty, pos, after, gd⟩ (TAgg ts') :=
  OpP.same fun a w G S hs _ ho => by
    obtain ⟨b, o, e1, hc⟩ := ho x (by simp [Op.operands]) _ hx
    have hc' : CellsP G b o ts' := by
      subst ht
      intro j T hj
      rw [List.getElem?_take] at hj
      split at hj
      · exact hc j T hj
      · cases hj
    obtain ⟨vs, hl, ha, hb⟩ := getElem?_toArray_cells ts' hc'
    refine ⟨.agg vs.toArray, ?_, vs, rfl, hl, hb⟩
    simp only [execOp, e1]
    have hr := run_loadCells_row (P := P) w b o vs (fun j u e => hs b _ u (ha j u e))
    rw [hl, hn] at hr
    simp [Instr.loadAt, Instr.sureAddr, loadVar, run_isAgg hag, run_sizeOf hsz, hr]

/-! ### loads and stores of one's own -/
theorem ownP.at {i : Nat} {g : Nat} {e : TypeId} {ts : List Ty} {S : Nat → Nat → Prop} {G : Imm} {w : World} (h : Owns S L G w) (hL : L[i]? = some (ownP g e ts)) : (∀ b, S i b ↔ b = g) ∧ (∃ cs, w.heap[g]? = some (.cells cs e (0, 0)) ∧ cs.size = ts.length ∧ ∀ (j : Nat) (T : Ty), ts[j]? = some T → ∃ u, cs[j]? = some u ∧ T.p G u ∧ u.oneCell' = true) ∧ ∀ o, G g o = none :=
  h.res i _ hL
theorem op_loadO {x : Operand} {g o : Nat} {e : TypeId} {ts : List Ty} {T : Ty} {t : TypeId} (i : Nat) (hx : Opd E x = some (Is (pAt g o))) (hL : L[i]? = some (ownP g e ts)) (hT : ts[o]? = some T) (hag : aggB P t = some false) : OpP P L E ⟨dst, .load t x, ty, pos, after, gd⟩ T :=
  OpP.same fun a w G S hs ho ht => by
    have h1 : a.eval x = pAt g o := ht x (by simp [Op.operands]) _ hx
    obtain ⟨_, ⟨cs, h2, h3, h4⟩, _⟩ := ownP.at ho hL
    obtain ⟨u, h5, h6, _⟩ := h4 o T hT
    refine ⟨u, ?_, h6⟩
    have hcell : w.cell? ⟨g, o, none⟩ = some u := by simp [World.cell?, h2, h5]
    simp only [execOp, h1]
    simp [Instr.loadAt, Instr.sureAddr, loadVar, run_isAgg hag, hcell]
theorem op_loadAO {x : Operand} {g o n : Nat} {e : TypeId} {ts ts' : List Ty} {t : TypeId} (i : Nat) (hx : Opd E x = some (Is (pAt g o))) (hL : L[i]? = some (ownP g e ts)) (hag : aggB P t = some true) (hsz : (P.info? t).map (·.size) = some n) (ht : (ts.drop o).take n = ts') (hn : ts'.length = n) : OpP P L E ⟨dst, .load t x, ty, pos, after, gd⟩ (TAgg ts') :=
  OpP.same fun a w G S hs ho htt => by
    have h1 : a.eval x = pAt g o := htt x (by simp [Op.operands]) _ hx
    obtain ⟨_, ⟨cs, h2, h3, h4⟩, _⟩ := ownP.at ho hL
    have hlen : ((cs.toList.drop o).take n).length = n := by
      have := congrArg List.length ht
      simp only [List.length_take, List.length_drop, Array.length_toList] at this ⊢
      omega
    refine ⟨.agg ((cs.toList.drop o).take n).toArray, ?_, _, rfl, by rw [hlen, hn], ?_⟩
    · have hr := run_loadCells_row (P := P) w g o ((cs.toList.drop o).take n) (fun j u e => by
        rw [List.getElem?_take] at e
        split at e
        · rw [List.getElem?_drop] at e
          simp [World.cell?, h2]
          simpa using e
        · cases e)
      rw [hlen] at hr
      simp only [execOp, h1]
      simp [Instr.loadAt, Instr.sureAddr, loadVar, run_isAgg hag, run_sizeOf hsz, hr]
    · intro j T u e1 e2
      subst ht
      rw [List.getElem?_take] at e1 e2
      split at e1
      · rw [List.getElem?_drop] at e1
        rw [if_pos (by assumption), List.getElem?_drop] at e2
        obtain ⟨u', h5, h6, h7⟩ := h4 _ _ e1
        have : u' = u := by
          have e3 : cs[o + j]? = some u := by simpa using e2
          rw [h5] at e3; cases e3; rfl
        subst this; exact ⟨h6, h7⟩
      · cases e1

/-- A block of one's own is written anew. -/
theorem Owns.write {i g : Nat} {e : TypeId} {ts ts' : List Ty} {S : Nat → Nat → Prop} {G : Imm} {w : World} (hs : Sat G w) (ho : Owns S L G w) (hL : L[i]? = some (ownP g e ts)) {cs cs' : Array Value} (hc : w.heap[g]? = some (.cells cs e (0, 0))) (hsz : cs'.size = ts'.length)
    (hv : ∀ (j : Nat) (T : Ty), ts'[j]? = some T → ∃ u, cs'[j]? = some u ∧ T.p G u ∧ u.oneCell' = true) :
    Ext (fun b => ∃ i, S i b) G w G (w.setRow g cs') ∧ Owns (fun j b => if j = i then b = g else S j b) (L.set i (ownP g e ts')) G (w.setRow g cs') ∧ ∀ j b, (if j = i then b = g else S j b) → w.heap.size ≤ b ∨ ∃ k, S k b := by
  obtain ⟨hS, _, hfree⟩ := ownP.at ho hL
  have hiL : i < L.length := (List.getElem?_eq_some_iff.1 hL).1
  have hgS : S i g := (hS g).2 rfl
  have hext : Ext (fun b => b = g) G w G (w.setRow g cs') := by
    refine ⟨?_, Imm.le.refl G, rfl, rfl, rfl, by simp, fun b _ hb => ⟨setRow_other w g b cs' hb, fun _ => rfl⟩⟩
    intro b o v hb
    have hbg : b ≠ g := fun e => by subst e; rw [hfree] at hb; cases hb
    rw [cell_setRow_other w g cs' ⟨b, o, Option.none⟩ hbg]
    exact hs b o v hb
  refine ⟨⟨hext.sat, hext.le, hext.os, hext.tape, hext.output, hext.size, fun b hb hz => hext.blk b hb (fun e => hz ⟨i, by rw [e]; exact hgS⟩)⟩, ?_, ?_⟩
  · exact ho.set hext hiL (fun b hb => by rw [hb]; exact hgS) (ownP g e ts') (fun b => b = g) (fun b hb => ⟨.inl (by rw [hb]; exact hgS), by rw [hb]; simpa using ho.bound i g hgS⟩)
      ⟨fun b => Iff.rfl, ⟨cs', setRow_heap w g cs cs' e (0, 0) hc, hsz, hv⟩, hfree⟩
  · intro j b hb
    by_cases hj : j = i
    · simp only [hj, if_true] at hb; exact .inr ⟨i, by rw [hb]; exact hgS⟩
    · simp only [hj, if_false] at hb; exact .inr ⟨j, hb⟩

theorem op_storeO {x y : Operand} {g o : Nat} {e : TypeId} {ts ts' : List Ty} {T : Ty} {t : TypeId} {L' : List Res} (i : Nat) (hx : Opd E x = some (Is (pAt g o))) (hy : Opd E y = some T) (h1c : One T) (hL : L[i]? = some (ownP g e ts)) (hsz : (P.info? t).map (·.size) = some 1) (hlt : Nat.blt o ts.length = true) (ht : ts.set o T = ts') (hL' : L.set i (ownP g e ts') = L') :
    OpC P L E ⟨dst, .store t x y, ty, pos, after, gd⟩ (fun v => Is v) (fun _ => L') := by
  intro a w G S hs ho htt K Q k
  have h1 : a.eval x = pAt g o := htt x (by simp [Op.operands]) _ hx
  have h2 : T.p G (a.eval y) := htt y (by simp [Op.operands]) _ hy
  have h3 := h1c G _ h2
  have hlt' : o < ts.length := Nat.le_of_ble_eq_true hlt
  obtain ⟨_, ⟨cs, hc, hcs, hv⟩, hfree⟩ := ownP.at ho hL
  have hcell : w.cell? ⟨g, o, none⟩ = some (cs[o]'(by omega)) := by simp [World.cell?, hc, hcs, hlt']
  have hfro : w.frozen? ⟨g, o, none⟩ = false := by simp [World.frozen?, hc]
  have hcells : (a.eval y).cells = #[a.eval y] := by
    revert h3; cases a.eval y <;> simp [Value.oneCell', Value.cells]
  have hrun : (execOp a.eval (⟨dst, .store t x y, ty, pos, after, gd⟩ : Oper)).run P w = .ok .skip (w.setRow g (cs.setIfInBounds o (a.eval y))) := by
    simp only [execOp, h1]
    have hst := run_store P w ⟨g, o, none⟩ (a.eval y) .plain h3
    rw [hcell] at hst
    simp only [hfro, setCell_eq_setRow w g o cs e (0, 0) _ hc] at hst
    simp [Instr.storeAt, Instr.sureAddr, storeVar, run_sizeOf hsz, hcells, storeCells, Addr.add, hst]
  obtain ⟨a1, a2, a3⟩ := Owns.write (ts' := ts') hs ho hL (cs' := cs.setIfInBounds o (a.eval y)) hc (by subst ht; simp [hcs]) (by
    subst ht
    intro j U hj
    rw [List.getElem?_set] at hj
    by_cases hoj : o = j
    · subst hoj
      rw [if_pos rfl, if_pos hlt'] at hj
      cases hj
      exact ⟨a.eval y, by simp [hcs, hlt'], h2, h3⟩
    · rw [if_neg hoj] at hj
      obtain ⟨u, b1, b2, b3⟩ := hv j U hj
      exact ⟨u, by rw [Array.getElem?_setIfInBounds, if_neg hoj]; exact b1, b2, b3⟩)
  subst hL'
  simp only [Oper.wp, hrun, Oper.upon_skip]
  exact k undef _ G _ a1 a2 a3 rfl
theorem op_storeAO {x y : Operand} {g o n : Nat} {e : TypeId} {ts ts' us : List Ty} {t : TypeId} {L' : List Res} (i : Nat) (hx : Opd E x = some (Is (pAt g o))) (hy : Opd E y = some (TAgg us)) (hL : L[i]? = some (ownP g e ts)) (hsz : (P.info? t).map (·.size) = some n) (hn : us.length = n) (hlt : Nat.ble (o + n) ts.length = true) (ht : ts.take o ++ us ++ ts.drop (o + n) = ts') (hL' : L.set i (ownP g e ts') = L') :
    OpC P L E ⟨dst, .store t x y, ty, pos, after, gd⟩ (fun v => Is v) (fun _ => L') := by
  intro a w G S hs ho htt K Q k
  have h1 : a.eval x = pAt g o := htt x (by simp [Op.operands]) _ hx
  obtain ⟨vs, h2, h3, h4⟩ := htt y (by simp [Op.operands]) _ hy
  have hlt' : o + n ≤ ts.length := Nat.le_of_ble_eq_true hlt
  obtain ⟨_, ⟨cs, hc, hcs, hv⟩, hfree⟩ := ownP.at ho hL
  have hone : ∀ v ∈ vs, v.oneCell' = true := by
    intro v hv'
    obtain ⟨j, hj, e'⟩ := List.getElem_of_mem hv'
    exact (h4 j us[j] v (List.getElem?_eq_getElem (by omega)) (by rw [List.getElem?_eq_getElem hj, e'])).2
  have hst := run_storeCells_at (P := P) g o e vs 0 cs w hc (by omega) hone
  have hrun : (execOp a.eval (⟨dst, .store t x y, ty, pos, after, gd⟩ : Oper)).run P w = .ok .skip (w.setRow g (cs.toList.take (o + 0) ++ vs ++ cs.toList.drop (o + 0 + vs.length)).toArray) := by
    simp only [execOp, h1, h2]
    simp [Instr.storeAt, Instr.sureAddr, storeVar, run_sizeOf hsz, Value.cells, h3, hn, hst]
  obtain ⟨a1, a2, a3⟩ := Owns.write (ts' := ts') hs ho hL (cs' := (cs.toList.take (o + 0) ++ vs ++ cs.toList.drop (o + 0 + vs.length)).toArray) hc (by subst ht; simp; omega) (by
    subst ht
    intro j U hj
    simp only [Nat.add_zero, List.getElem?_toArray]
    rw [List.append_assoc, List.getElem?_append] at hj ⊢
    simp only [List.length_take, Array.length_toList] at hj ⊢
    by_cases hjo : j < o
    · rw [if_pos (by omega), List.getElem?_take, if_pos hjo] at hj
      rw [if_pos (by omega), List.getElem?_take, if_pos hjo]
      obtain ⟨u, b1, b2, b3⟩ := hv j U hj
      exact ⟨u, by simpa using b1, b2, b3⟩
    · rw [if_neg (by omega), show min o ts.length = o from by omega, List.getElem?_append] at hj
      rw [if_neg (by omega), show min o cs.size = o from by omega, List.getElem?_append]
      by_cases hjn : j - o < us.length
      · rw [if_pos hjn] at hj
        rw [if_pos (by omega)]
        obtain ⟨u, hu⟩ : ∃ u, vs[j - o]? = some u := ⟨_, List.getElem?_eq_getElem (by omega)⟩
        exact ⟨u, hu, h4 _ _ _ hj hu⟩
      · rw [if_neg hjn, List.getElem?_drop] at hj
        rw [if_neg (by omega), List.getElem?_drop]
        obtain ⟨u, b1, b2, b3⟩ := hv _ U hj
        refine ⟨u, ?_, b2, b3⟩
        rw [← b1, show o + vs.length + (j - o - vs.length) = o + n + (j - o - us.length) from by omega]
        simp)
  subst hL'
  simp only [Oper.wp, hrun, Oper.upon_skip]
  exact k undef _ G _ a1 a2 a3 rfl

/-! ### new variables -/
theorem fresh_own {G : Imm} {w : World} {S : Nat → Nat → Prop} (hs : Sat G w) (ho : Owns S L G w) {e : TypeId} {cs : Array Value} {ts : List Ty} (hsz : cs.size = ts.length) (hv : ∀ (j : Nat) (T : Ty), ts[j]? = some T → ∃ u, cs[j]? = some u ∧ T.p G u ∧ u.oneCell' = true) :
    Ext (fun b => ∃ i, S i b) G w G (w.alloc (.cells cs e)) ∧ Owns (fun j b => if j = L.length then b = w.heap.size else S j b) (L ++ [ownP w.heap.size e ts]) G (w.alloc (.cells cs e)) ∧ ∀ j b, (if j = L.length then b = w.heap.size else S j b) → w.heap.size ≤ b ∨ ∃ k, S k b := by
  have hfree : ∀ o, G w.heap.size o = none := fun o => by
    cases h : G w.heap.size o with
    | none => rfl
    | some v => exact absurd (hs.lt h) (by omega)
  have hold : ∀ b, b < w.heap.size → (w.alloc (.cells cs e)).heap[b]? = w.heap[b]? := fun b hb => RowKit.Below.heap_alloc w _ b hb
  have hext : Ext noZ G w G (w.alloc (.cells cs e)) := by
    refine ⟨?_, Imm.le.refl G, rfl, rfl, rfl, by simp, fun b hb _ => ⟨hold b hb, fun _ => rfl⟩⟩
    intro b o v hb
    have := hs b o v hb
    simp only [World.cell?] at this ⊢
    rw [hold b (hs.lt hb)]; exact this
  refine ⟨⟨hext.sat, hext.le, hext.os, hext.tape, hext.output, hext.size, fun b hb _ => hext.blk b hb (fun z => z)⟩, ?_, ?_⟩
  · exact ho.snoc hext (ownP w.heap.size e ts) (fun b => b = w.heap.size) (fun b hb => ⟨by omega, by rw [hb]; simp⟩) ⟨fun b => Iff.rfl, ⟨cs, heap_new w _, hsz, hv⟩, hfree⟩
  · intro j b hb
    by_cases hj : j = L.length
    · simp only [hj, if_true] at hb; exact .inl (by omega)
    · simp only [hj, if_false] at hb; exact .inr ⟨j, hb⟩
/-- The types of some values. -/
def LitT : List Value → List Ty → Prop
  | [], [] => True
  | v :: vs, T :: ts => (T.p (fun _ _ => none) v ∧ v.oneCell' = true) ∧ LitT vs ts
  | _, _ => False
theorem LitT.at : ∀ (vs : List Value) (ts : List Ty), LitT vs ts → vs.length = ts.length ∧ ∀ (j : Nat) (T : Ty), ts[j]? = some T → ∃ u, vs[j]? = some u ∧ T.p (fun _ _ => none) u ∧ u.oneCell' = true
  | [], [], _ => ⟨rfl, fun j T h => by simp at h⟩
  | v :: vs, T :: ts, ⟨h, k⟩ => by
    obtain ⟨h1, h2⟩ := LitT.at vs ts k
    refine ⟨by simp [h1], fun j U hj => ?_⟩
    cases j with
    | zero => simp at hj; subst hj; exact ⟨v, rfl, h⟩
    | succ j => simpa using h2 j U (by simpa using hj)
  | [], _ :: _, h => h.elim
  | _ :: _, [], h => h.elim
theorem op_alloc {e : TypeId} {z : Value} {zs : List Value} {ts : List Ty} (hz : (P.info? e).map (·.zero) = some (some z)) (hc : z.cells.toList = zs) (ht : LitT zs ts) :
    OpC P L E ⟨dst, .alloc e, ty, pos, after, gd⟩ (fun v => Is (pAt (blk v) 0)) (fun v => L ++ [ownP (blk v) e ts]) := by
  intro a w G S hs ho htt K Q k
  obtain ⟨h1, h2⟩ := LitT.at zs ts ht
  have hrun : (execOp a.eval (⟨dst, .alloc e, ty, pos, after, gd⟩ : Oper)).run P w = .ok (.value (pAt w.heap.size 0)) (w.alloc (.cells z.cells e)) := by
    simp only [execOp]
    simp [Instr.alloc, run_zeroValue hz, newVar, newRow]
  obtain ⟨a1, a2, a3⟩ := fresh_own (e := e) (cs := z.cells) hs ho (by rw [← Array.length_toList, hc, h1]) (fun j T hj => by
    obtain ⟨u, b1, b2, b3⟩ := h2 j T hj
    exact ⟨u, by rw [← hc] at b1; simpa using b1, T.mono (fun _ _ _ h => by cases h) b2, b3⟩)
  simp only [Oper.wp, hrun, Oper.upon_value]
  exact k (pAt w.heap.size 0) _ G _ a1 a2 a3 rfl
theorem op_box {x : Operand} {T : Ty} {e : TypeId} {ts : List Ty} (hx : Opd E x = some T) (hc : CellsOf T ts) :
    OpC P L E ⟨dst, .box e x, ty, pos, after, gd⟩ (fun v => Is (pAt (blk v) 0)) (fun v => L ++ [ownP (blk v) e ts]) := by
  intro a w G S hs ho htt K Q k
  have h1 : T.p G (a.eval x) := htt x (by simp [Op.operands]) _ hx
  obtain ⟨h2, h3⟩ := hc G _ h1
  have hrun : (execOp a.eval (⟨dst, .box e x, ty, pos, after, gd⟩ : Oper)).run P w = .ok (.value (pAt w.heap.size 0)) (w.alloc (.cells (a.eval x).cells e)) := by
    simp only [execOp]
    simp [Instr.box, newVar, newRow]
  obtain ⟨a1, a2, a3⟩ := fresh_own (e := e) (cs := (a.eval x).cells) (ts := ts) hs ho (by simpa using h2) (fun j T' hj => by
    have hjl := (List.getElem?_eq_some_iff.1 hj).1
    obtain ⟨u, hu⟩ : ∃ u, (a.eval x).cells.toList[j]? = some u := ⟨_, List.getElem?_eq_getElem (by omega)⟩
    exact ⟨u, by simpa using hu, h3 j T' u hj hu⟩)
  simp only [Oper.wp, hrun, Oper.upon_value]
  exact k (pAt w.heap.size 0) _ G _ a1 a2 a3 rfl
/-- A variable that nobody writes. -/
theorem op_boxC {x : Operand} {T : Ty} {e : TypeId} {ts : List Ty} (hx : Opd E x = some T) (hc : CellsOf T ts) : OpP P L E ⟨dst, .box e x, ty, pos, after, gd⟩ (TPc ts) :=
  OpP.laid fun a w G S hs ho htt => by
    have h1 : T.p G (a.eval x) := htt x (by simp [Op.operands]) _ hx
    obtain ⟨h2, h3⟩ := hc G _ h1
    have hext := Ext.new hs (a.eval x).cells.toList (.cells (a.eval x).cells e (0, 0)) (fun j v hj => by
      have e1 : (w.alloc (.cells (a.eval x).cells e (0, 0))).heap[w.heap.size]? = some (.cells (a.eval x).cells e (0, 0)) := heap_new w _
      simp only [World.cell?, e1]
      simpa using hj) (w.alloc (.cells (a.eval x).cells e (0, 0))) rfl rfl rfl rfl
    refine ⟨pAt w.heap.size 0, _, _, ?_, hext, w.heap.size, 0, rfl, ?_⟩
    · simp only [execOp]
      simp [Instr.box, newVar, newRow]
    · intro j U hj
      have hjl := (List.getElem?_eq_some_iff.1 hj).1
      obtain ⟨u, hu⟩ : ∃ u, (a.eval x).cells.toList[j]? = some u := ⟨_, List.getElem?_eq_getElem (by omega)⟩
      obtain ⟨b1, b2⟩ := h3 j U u hj hu
      exact ⟨u, by unfold Imm.add; rw [if_pos rfl, Nat.zero_add]; exact hu, U.mono hext.le b1, b2⟩
end
end Go.Vk
