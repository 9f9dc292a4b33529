/-
  Arguments as data: from the form's reading of a value to the logic's types, with the bounds that the reach gives. Nothing here speaks of a program; no conditions.
-/
import Derived.Test.YtibabbepnhpaiaaVu
import Derived.ProofKit
import Derived.OpenShut
import Derived.ShutString
import Derived.ChangeOld
import Derived.Below
import Derived.Carry
import Derived.SizedLaws
set_option linter.unusedVariables false
namespace Go.Vk
/-- Whatever reads as a t reads as some a, cell by cell. -/
structure Opn (P : Program) (t : TypeId) {α : Type} (f : α → List Ty) (ok : α → Prop) : Prop where
  size : ∀ a, (f a).length = P.cellsOf t
  go : ∀ {H : Type} (enc : TypeId × Value → H) (W : World) (fuel : Nat) (cs : List Value) (x : DataW H × List MemPlace), DataW.trod enc P W 0 (fun _ => true) true fuel t cs = some x → (∀ n ∈ x.1.weights P t, n ≤ reachBytes) →
    ∃ a, ok a ∧ cs.length = (f a).length ∧ ∀ (j : Nat) (T : Ty) (u : Value), (f a)[j]? = some T → cs[j]? = some u → T.p (heapImm W) u ∧ u.oneCell' = true
section
variable {P : Program} {t : TypeId}
theorem one_at {T : Ty} {v : Value} {G : Imm} (h : T.p G v) (h1 : v.oneCell' = true) : ∀ (j : Nat) (U : Ty) (u : Value), [T][j]? = some U → [v][j]? = some u → U.p G u ∧ u.oneCell' = true := by
  intro j U u hj hu
  cases j with
  | zero => simp at hj hu; subst hj; subst hu; exact ⟨h, h1⟩
  | succ j => simp at hj
theorem Opn.str (ht : P.underlying t = some .string) (hs : P.cellsOf t = 1) : Opn P t cS (fun l => l.length ≤ reachBytes) where
  size := fun _ => hs.symm
  go := by
    intro H enc W fuel cs x h hw
    obtain ⟨s, rfl, rfl, hm⟩ := DataW.trod_string ht h
    refine ⟨s.data.toList, hw _ (by simp [DataW.weights]), rfl, one_at ?_ rfl⟩
    show Value.string s = .string _
    simp
theorem Opn.int {k : IntKind} (ht : P.underlying t = some (.int k)) (hs : P.cellsOf t = 1) : Opn P t (fun n : Int => [okI k n]) (fun n => (Lit.int k n).wf = true) where
  size := fun _ => hs.symm
  go := by
    intro H enc W fuel cs x h hw
    obtain ⟨n, rfl, rfl, hm⟩ := DataW.trod_int ht h
    exact ⟨n, hm, rfl, one_at rfl rfl⟩
theorem Opn.byte (ht : P.underlying t = some (.int .u8)) (hs : P.cellsOf t = 1) : Opn P t cB (fun _ => True) where
  size := fun _ => hs.symm
  go := by
    intro H enc W fuel cs x h hw
    obtain ⟨n, rfl, rfl, hm⟩ := DataW.trod_int ht h
    exact ⟨b8 n, trivial, rfl, one_at (arg_u8 hm) rfl⟩
theorem Opn.bool (ht : P.underlying t = some .bool) (hs : P.cellsOf t = 1) : Opn P t (fun b : Bool => [Is (.bool b)]) (fun _ => True) where
  size := fun _ => hs.symm
  go := by
    intro H enc W fuel cs x h hw
    obtain ⟨b, rfl, rfl⟩ := DataW.trod_bool ht h
    exact ⟨b, trivial, rfl, one_at rfl rfl⟩
theorem Opn.map {α β : Type} {f : α → List Ty} {ok : α → Prop} (h : Opn P t f ok) (g : α → β) {f' : β → List Ty} {ok' : β → Prop} (hs : ∀ b, (f' b).length = P.cellsOf t) (hf : ∀ a, f' (g a) = f a) (hok : ∀ a, ok a → ok' (g a)) : Opn P t f' ok' where
  size := hs
  go := by
    intro H enc W fuel cs x hx hw
    obtain ⟨a, h1, h2, h3⟩ := h.go enc W fuel cs x hx hw
    refine ⟨g a, hok a h1, by rw [hf]; exact h2, by rw [hf]; exact h3⟩
theorem add_none (b o n : Nat) : (⟨b, o, none⟩ : Addr).add n = ⟨b, o + n, none⟩ := by
  unfold Addr.add
  split
  · rename_i h; simp [h]
  · rfl
theorem weightsAll_mem {H : Type} {e : TypeId} : ∀ {ds : List (DataW H)} {d : DataW H}, d ∈ ds → ∀ n ∈ d.weights P e, n ∈ DataW.weightsAll P e ds
  | d0 :: ds, d, hd, n, hn => by
    simp only [DataW.weightsAll, List.mem_append]
    rcases List.mem_cons.1 hd with rfl | hd
    · exact .inl hn
    · exact .inr (weightsAll_mem hd n hn)
theorem Opn.slice {e : TypeId} {α : Type} {f : α → List Ty} {ok : α → Prop} (h : Opn P e f ok) (ht : P.underlying t = some (.slice e)) (hs : P.cellsOf t = 1) (hz : Nat.blt 0 (P.cellsOf e) = true) : Opn P t (cL (P.cellsOf e) f) (fun l => l.length * P.bytesOf e ≤ reachBytes ∧ ∀ a ∈ l, ok a) where
  size := fun _ => hs.symm
  go := by
    intro H enc W fuel cs x hx hw
    have hz : 0 < P.cellsOf e := Nat.le_of_ble_eq_true hz
    rcases DataW.trod_slice ht hx with ⟨rfl, rfl⟩ | ⟨a, len, cap, elems, rest, n, rfl, rfl, rfl, _, hlc, hcm, hel, hget, _, _⟩
    · exact ⟨[], ⟨by simp, by simp⟩, rfl, one_at (TSlX.sl (nil_sl _ f _)) rfl⟩
    · have key : ∀ i : Fin len, ∃ y : α, ok y ∧ ∃ cs', W.cells? 0 (a.add (i.val * P.cellsOf e)) (P.cellsOf e) = some cs' ∧ ∀ (j : Nat) (T : Ty) (u : Value), (f y)[j]? = some T → cs'[j]? = some u → T.p (heapImm W) u ∧ u.oneCell' = true := by
        intro i
        have hi := hget i.val i.isLt
        have hlt : i.val < elems.length := by rw [hel]; exact i.isLt
        rw [List.getElem?_eq_getElem hlt, Option.bind_eq_some_iff] at hi
        obtain ⟨cs', h1, h2⟩ := hi
        obtain ⟨y, g1, g2, g3⟩ := h.go enc W n cs' _ h2 (fun m hm => hw m (by
          simp only [DataW.weights, ht]
          refine List.mem_cons_of_mem _ (List.mem_append_left _ ?_)
          exact weightsAll_mem (List.mem_map.2 ⟨_, List.getElem_mem hlt, rfl⟩) m hm))
        exact ⟨y, g1, cs', h1, g3⟩
      let l : List α := List.ofFn fun i : Fin len => (key i).choose
      have hll : l.length = len := by simp [l]
      have hl : ∀ (i : Nat) (y : α), l[i]? = some y → ∃ hi : i < len, y = (key ⟨i, hi⟩).choose := by
        intro i y hy
        have hi : i < len := by have := (List.getElem?_eq_some_iff.1 hy).1; omega
        refine ⟨hi, ?_⟩
        simp only [l, List.getElem?_ofFn, hi, dite_true, Option.some.injEq] at hy
        exact hy.symm
      refine ⟨l, ⟨?_, ?_⟩, rfl, one_at ?_ rfl⟩
      · have := hw ((elems.length + rest.length) * P.bytesOf e) (by simp only [DataW.weights, ht, List.length_map]; exact List.mem_cons_self)
        have h2 : l.length * P.bytesOf e ≤ (elems.length + rest.length) * P.bytesOf e := Nat.mul_le_mul_right _ (by omega)
        omega
      · intro y hy
        obtain ⟨i, hi⟩ := List.mem_iff_getElem?.1 hy
        obtain ⟨hlt, rfl⟩ := hl i y hi
        exact (key ⟨i, hlt⟩).choose_spec.1
      · refine ⟨some a, cap, by rw [hll], by omega, hcm, (fun e => by cases e), (fun e => by cases e), fun ad e => ?_⟩
        cases e
        have hspot : 0 < len → a.spot = none := by
          intro hp
          obtain ⟨_, cs', h1, _⟩ := (key ⟨0, hp⟩).choose_spec
          have h2 := (World.cells?_some h1).2.2 0 hz
          have h3 : ∃ u, W.cell? ((a.add (0 * P.cellsOf e)).add 0) = some u := by
            have h4 := (World.cells?_some h1).2.1
            exact ⟨_, h2.trans (List.getElem?_eq_getElem (by omega))⟩
          obtain ⟨u, hu⟩ := h3
          have := World.cell?_spot hu
          simpa [Addr.add] using this
        refine ⟨fun hp => hspot (by omega), fun i y hy => ⟨h.size y, ?_⟩⟩
        obtain ⟨hlt, rfl⟩ := hl i y hy
        obtain ⟨_, cs', h1, h3⟩ := (key ⟨i, hlt⟩).choose_spec
        have hsp := hspot (by omega)
        intro j T hT
        have hj : j < P.cellsOf e := by have := (List.getElem?_eq_some_iff.1 hT).1; rw [h.size] at this; exact this
        have h5 := World.cells?_some h1
        have hcj : cs'[j]? = some cs'[j] := List.getElem?_eq_getElem (by omega)
        refine ⟨cs'[j], ?_, h3 j T _ hT hcj⟩
        have h6 := h5.2.2 j hj
        rw [hcj] at h6
        show W.cell? _ = _
        rw [← h6]
        obtain ⟨b, o, sp⟩ := a
        have hsp : sp = none := hsp
        subst hsp
        rw [add_none, add_none]
/-! ### structs -/
inductive OpnF (P : Program) : List Field → Nat → Nat → (α : Type) → (α → List Ty) → (α → Prop) → Prop
  | nil (off : Nat) : OpnF P [] off off Unit (fun _ => []) (fun _ => True)
  | cons {fd : Field} {fs : List Field} {off last : Nat} {A B : Type} {fa : A → List Ty} {oka : A → Prop} {fb : B → List Ty} {okb : B → Prop} (ho : fd.offset = off) (h : Opn P fd.type fa oka) (r : OpnF P fs (off + P.cellsOf fd.type) last B fb okb) : OpnF P (fd :: fs) off last (A × B) (fun p => fa p.1 ++ fb p.2) (fun p => oka p.1 ∧ okb p.2)
theorem OpnF.size {fs : List Field} {off last : Nat} {α : Type} {f : α → List Ty} {ok : α → Prop} (h : OpnF P fs off last α f ok) : ∀ a, off + (f a).length = last := by
  induction h with
  | nil off => intro a; simp
  | cons ho h r ih =>
    rintro ⟨a, b⟩
    have h1 := h.size a
    have h2 := ih b
    simp only [List.length_append]; omega
theorem OpnF.go {H : Type} {enc : TypeId × Value → H} {W : World} {fuel : Nat} {cs : List Value} {fs : List Field} {off last : Nat} {α : Type} {f : α → List Ty} {ok : α → Prop} (h : OpnF P fs off last α f ok) (hlen : cs.length = last) :
    ∀ (xs : List (DataW H × List MemPlace)), xs.length = fs.length → (∀ (i : Nat) (fd : Field), fs[i]? = some fd → DataW.trod enc P W 0 (fun _ => true) true fuel fd.type ((cs.drop fd.offset).take (P.cellsOf fd.type)) = xs[i]?) →
      (∀ n ∈ DataW.weightsEach P (fs.map (·.type)) (xs.map (·.1)), n ≤ reachBytes) →
      ∃ a, ok a ∧ ∀ (j : Nat) (T : Ty) (u : Value), (f a)[j]? = some T → cs[off + j]? = some u → T.p (heapImm W) u ∧ u.oneCell' = true := by
  induction h with
  | nil off => intro xs _ _ _; exact ⟨(), trivial, fun j T u hj => by simp at hj⟩
  | cons ho h r ih =>
    rename_i fd fs off last A B fa oka fb okb
    intro xs hl hx hw
    cases xs with
    | nil => simp at hl
    | cons x xs =>
      have h0 := hx 0 fd rfl
      simp only [List.getElem?_cons_zero] at h0
      obtain ⟨a, a1, a2, a3⟩ := h.go enc W fuel _ x h0 (fun n hn => hw n (by simp only [List.map_cons, DataW.weightsEach, List.mem_append]; exact .inl hn))
      obtain ⟨b, b1, b2⟩ := ih hlen xs (by simpa using hl) (fun i fd' hi => by
        have := hx (i + 1) fd' (by simpa using hi)
        simpa using this) (fun n hn => hw n (by simp only [List.map_cons, DataW.weightsEach, List.mem_append]; exact .inr hn))
      refine ⟨(a, b), ⟨a1, b1⟩, fun j T u hj hu => ?_⟩
      dsimp only at hj
      have hsz := h.size a
      by_cases hlt : j < (fa a).length
      · rw [List.getElem?_append_left hlt] at hj
        refine a3 j T u hj ?_
        rw [List.getElem?_take, List.getElem?_drop, if_pos (by omega), ho]
        exact hu
      · rw [List.getElem?_append_right (by omega)] at hj
        refine b2 _ T u hj ?_
        rw [← hu]
        congr 1; omega
theorem Opn.struct {fs : Array Field} {last : Nat} {α : Type} {f : α → List Ty} {ok : α → Prop} (ht : P.underlying t = some (.struct fs)) (hs : P.cellsOf t = last) (h : OpnF P fs.toList 0 last α f ok) : Opn P t f ok where
  size := fun a => by have := h.size a; omega
  go := by
    intro H enc W fuel cs x hx hw
    obtain ⟨xs, n, rfl, rfl, hl, hxl, hf⟩ := DataW.trod_struct ht hx
    obtain ⟨a, a1, a2⟩ := h.go (by omega) xs (by simpa using hxl) (fun i fd hi => hf i fd (by simpa using hi)) (fun n hn => hw n (by simp only [DataW.weights, ht]; exact hn))
    have hsz := h.size a
    exact ⟨a, a1, by omega, fun j T u hj hu => a2 j T u hj (by rw [Nat.zero_add]; exact hu)⟩
/-! ### arguments -/
section
variable {H : Type} {enc : TypeId × Value → H} {W : World} {v : Value} {d : DataW H} {ps : List MemPlace} {α : Type}
theorem Opn.one {T : α → Ty} {ok : α → Prop} (h : Opn P t (fun a => [T a]) ok) (hc : v.cells = #[v]) (hd : DataW.Trod enc P W 0 (fun _ => true) true t v d ps) (hw : ∀ n ∈ d.weights P t, n ≤ reachBytes) : ∃ a, ok a ∧ (T a).p (heapImm W) v := by
  obtain ⟨fuel, hf⟩ := hd
  obtain ⟨a, h1, h2, h3⟩ := h.go enc W fuel _ _ hf hw
  rw [hc] at h3
  exact ⟨a, h1, (h3 0 (T a) v rfl rfl).1⟩
theorem Opn.sl {e : TypeId} {sz : Nat} {f : α → List Ty} {ok : List α → Prop} {r : Reach} {b0 : Nat} (h : Opn P t (cL sz f) ok) (ht : P.underlying t = some (.slice e)) (hval : Value.okWide P W r b0 t v) (hd : DataW.Trod enc P W 0 (fun _ => true) true t v d ps) (hw : ∀ n ∈ d.weights P t, n ≤ reachBytes) : ∃ l, ok l ∧ (TSl sz f l).p (heapImm W) v := by
  obtain ⟨a, len, cap, rfl⟩ := WideShapes.okWide_slice ht hval
  exact Opn.one (T := fun l => TSl sz f l) h rfl hd hw
theorem Opn.st {ok : List UInt8 → Prop} {r : Reach} {b0 : Nat} (h : Opn P t cS ok) (ht : P.underlying t = some .string) (hval : Value.okWide P W r b0 t v) (hd : DataW.Trod enc P W 0 (fun _ => true) true t v d ps) (hw : ∀ n ∈ d.weights P t, n ≤ reachBytes) : ∃ l, ok l ∧ (Is (Vk.str l)).p (heapImm W) v := by
  obtain ⟨s, rfl⟩ := WideShapes.okWide_string ht hval
  exact Opn.one (T := fun l => Is (Vk.str l)) h rfl hd hw
theorem Opn.ag {fs : Array Field} {f : α → List Ty} {ok : α → Prop} {r : Reach} {b0 : Nat} (h : Opn P t f ok) (ht : P.underlying t = some (.struct fs)) (hval : Value.okWide P W r b0 t v) (hd : DataW.Trod enc P W 0 (fun _ => true) true t v d ps) (hw : ∀ n ∈ d.weights P t, n ≤ reachBytes) : ∃ a, ok a ∧ (TAgg (f a)).p (heapImm W) v := by
  obtain ⟨cs, rfl, hcs⟩ := WideShapes.okWide_struct ht hval
  obtain ⟨fuel, hf⟩ := hd
  obtain ⟨a, h1, h2, h3⟩ := h.go enc W fuel _ _ hf hw
  exact ⟨a, h1, cs.toList, by simp, by simpa [Value.cells] using h2, fun j T u hj hu => h3 j T u hj (by simpa [Value.cells] using hu)⟩
end
theorem weights_at {H : Type} {ts : List TypeId} {ds : List (DataW H)} (h : (DataW.weightsEach P ts ds).all (· ≤ reachBytes) = true) {j : Nat} {d : DataW H} (ht : ts[j]? = some t) (hd : ds[j]? = some d) : ∀ n ∈ d.weights P t, n ≤ reachBytes := fun n hn => by
  have := List.all_eq_true.1 h n (DataW.weights_mem_each ht hd n hn)
  simpa using this
theorem reach_le {n : Nat} (h : n ≤ reachBytes) : n ≤ 140737488351232 := h
end
end Go.Vk
