/-
  The contracts of the document's further functions on names: a name as a text, what does not count, what is above.
  Arguments as data: from the form's reading of a value to the logic's types, with the bounds that the reach gives. Nothing here speaks of a program; no conditions.
  The laws of chapter 13 whose plain side is that both tell the same.
  Numbers and bytes in a row of bytes: the plain functions. Nothing here speaks of a program; no conditions.
  The plain functions of entry: entries as bytes. Nothing here speaks of a program; no conditions.
  The contracts of entry.Is and of the document's.
  The contracts of octet's Writer and of the document's numbers and bytes.
  The contract of the document's Is; the contracts of Encode, the program's and the document's.
-/
import Derived.Test.YtibabbepnhpaiaaGaj
import Derived.Test.YtibabbepnhpaiaaGah
import Derived.ProofKit
import Derived.OpenShut
import Derived.ShutString
import Derived.ChangeOld
import Derived.Below
import Derived.Carry
import Derived.SizedLaws
import Derived.KernelRfl
import Derived.Test.YtibabbepnhpaiaaGag
import Derived.Test.YtibabbepnhpaiaaRows
import Derived.Test.YtibabbepnhpaiaaGai
set_option linter.unusedSimpArgs false
set_option linter.unusedVariables false
set_option linter.unusedVariables false
namespace Go.Dn
open Go.Vk
def hexI (n : Int) : Int := if n < 10 then 48 + n else 97 + n - 10
theorem hexI_D : ∀ n : Fin 16, (hexD.take ((n.val : Int) + 1).toNat).drop (n.val : Int).toNat = [b8 (hexI n.val)] := by decide +kernel
theorem hexI_at {n : Int} (h : 0 ≤ n ∧ n ≤ 15) : (hexD.take (n + 1).toNat).drop n.toNat = [b8 (hexI n)] := by
  have := hexI_D ⟨n.toNat, by omega⟩
  simpa [show (n.toNat : Int) = n by omega] using this
theorem hexI_bd {n : Int} (h : 0 ≤ n ∧ n ≤ 15) : 0 ≤ hexI n ∧ hexI n < 256 := by unfold hexI; split <;> omega
theorem tellC_hexI {v : List UInt8} {k : Nat} (h : ((v.getD k 0).toNat : Int) < 32 ∨ 126 < ((v.getD k 0).toNat : Int)) : tellC v k = [b8 92, b8 (hexI (((v.getD k 0).toNat : Int) / 16)), b8 (hexI (((v.getD k 0).toNat : Int) % 16))] := by
  have hc := (v.getD k 0).toNat_lt
  rw [tellC_hex h, hexI_at (by omega), hexI_at (by omega)]
  rfl
theorem lowC_32 (c : UInt8) : ((lowC c).toNat : Int) = 32 ↔ (c.toNat : Int) = 32 := by
  unfold lowC
  split
  · rw [b8_of (by omega)]; omega
  · exact Iff.rfl
theorem lowC_val {c : UInt8} (h : 65 ≤ (c.toNat : Int) ∧ (c.toNat : Int) ≤ 90) : ((lowC c).toNat : Int) = (c.toNat : Int) + 32 := by
  rw [lowC_up h, b8_of (by omega)]
theorem in35 (c : UInt8) : 0 ≤ Lib.indexByte [35, 32] c ↔ (c.toNat : Int) = 35 ∨ (c.toNat : Int) = 32 := by
  rw [indexByte_iff]
  simp only [List.mem_cons, List.not_mem_nil, or_false]
  constructor
  · rintro (h | h) <;> subst h
    · exact .inl rfl
    · exact .inr rfl
  · rintro (h | h)
    · exact .inl (UInt8.toNat_inj.1 (by show c.toNat = 35; omega))
    · exact .inr (UInt8.toNat_inj.1 (by show c.toNat = 32; omega))
end Go.Dn
set_option maxRecDepth 8000
set_option linter.unusedVariables false
namespace Go.Proofs.Ytibabbepnhpaiaa
open Go.Vk
attribute [local irreducible] HT HX RegS RegA RegM OpP OpC AltT
attribute [local irreducible] Dn.tellR Dn.tellC Dn.tellE Dn.printR Dn.printC Dn.printE Dn.foldR Dn.foldE Dn.normE Dn.normA Dn.sameE Dn.underE
set_option maxHeartbeats 2000000 in
theorem rfFold (s : List UInt8) (hs : s.length ≤ 134217728) : CFn Try.prog 39 [Is (str s)] (Is (str (Dn.foldE s))) := by
  refine CallsC.of Try.call39 Try.func39 rfl Try.ntmps39 rfl fun w0 G0 S0 hs ho => ?_
  refine run ?_
  refine HT.loopX (σ := Nat × Value) [0, 2] (fun t => [(3, TAnd (Is t.2) (TBytes (Dn.foldR (s.take t.1)))), (4, okI .i64 (t.1 : Int))]) (fun t => [ownSl t.2 1 5]) (fun t => t.1 ≤ s.length) (fun t => s.length - t.1) (0, .slice none 0 0) (Nat.zero_le _) (run trivial) (run ?_) ?_
  · unfold Dn.foldR; rfl
  rintro ⟨i, v⟩ hi
  dsimp only at hi ⊢
  have hl := Dn.foldR_len (s.take i)
  have hl2 : (s.take i).length = i := by rw [List.length_take]; omega
  refine run ?_
  and_intros
  all_goals intros
  all_goals (try simp only [Dn.lastB_at] at *)
  all_goals (first
    | (rename_i h1 h2
       have h3 := Dn.lowC_val h1
       refine HX.roundX (i + 1, _) ⟨by dsimp only; omega, by dsimp only; omega⟩ rfl (run trivial) (run ?_)
       rw [Dn.foldR_put (by omega) (by omega), Dn.lowC_up h1])
    | (rename_i h1 h2
       refine HX.roundX (i + 1, _) ⟨by dsimp only; omega, by dsimp only; omega⟩ rfl (run trivial) (run ?_)
       rw [Dn.foldR_skip (by omega) h2]
       done)
    | (rename_i h1 h2
       refine HX.roundX (i + 1, _) ⟨by dsimp only; omega, by dsimp only; omega⟩ rfl (run trivial) (run ?_)
       rw [Dn.foldR_put (by omega) (by omega), Dn.lowC_no (Dn.nand (by assumption))])
    | (rename_i h1
       rw [List.take_of_length_le (show s.length ≤ i by omega)] at *
       rw [Dn.foldE_cut h1, subN1]
       done)
    | (rename_i h1
       rw [List.take_of_length_le (show s.length ≤ i by omega)] at *
       rw [Dn.foldE_all h1]
       done))
end Go.Proofs.Ytibabbepnhpaiaa
set_option linter.unusedVariables false
namespace Go.Vk
/-- Whatever reads as a t reads as some a, cell by cell. -/
structure Opn (P : Program) (t : TypeId) {α : Type} (f : α → List Ty) (ok : α → Prop) : Prop where
  size : ∀ a, (f a).length = P.cellsOf t
  go : ∀ {H : Type} (enc : TypeId × Value → H) (W : World) (fuel : Nat) (cs : List Value) (x : DataW H × List MemPlace), DataW.trod enc P W 0 (fun _ => true) true fuel t cs = some x → (∀ n ∈ x.1.weights P t, n ≤ reachBytes) →
    ∃ a, ok a ∧ cs.length = (f a).length ∧ ∀ (j : Nat) (T : Ty) (u : Value), (f a)[j]? = some T → cs[j]? = some u → T.p (heapImm W) u ∧ u.oneCell' = true
section
variable {P : Program} {t : TypeId}
theorem one_at {T : Ty} {v : Value} {G : Imm} (h : T.p G v) (h1 : v.oneCell' = true) : ∀ (j : Nat) (U : Ty) (u : Value), [T][j]? = some U → [v][j]? = some u → U.p G u ∧ u.oneCell' = true := by
  intro j U u hj hu
  cases j with
  | zero => simp at hj hu; subst hj; subst hu; exact ⟨h, h1⟩
  | succ j => simp at hj
theorem Opn.str (ht : P.underlying t = some .string) (hs : P.cellsOf t = 1) : Opn P t cS (fun l => l.length ≤ reachBytes) where
  size := fun _ => hs.symm
  go := by
    intro H enc W fuel cs x h hw
    obtain ⟨s, rfl, rfl, hm⟩ := DataW.trod_string ht h
    refine ⟨s.data.toList, hw _ (by simp [DataW.weights]), rfl, one_at ?_ rfl⟩
    show Value.string s = .string _
    simp
theorem Opn.int {k : IntKind} (ht : P.underlying t = some (.int k)) (hs : P.cellsOf t = 1) : Opn P t (fun n : Int => [okI k n]) (fun n => (Lit.int k n).wf = true) where
  size := fun _ => hs.symm
  go := by
    intro H enc W fuel cs x h hw
    obtain ⟨n, rfl, rfl, hm⟩ := DataW.trod_int ht h
    exact ⟨n, hm, rfl, one_at rfl rfl⟩
theorem Opn.byte (ht : P.underlying t = some (.int .u8)) (hs : P.cellsOf t = 1) : Opn P t cB (fun _ => True) where
  size := fun _ => hs.symm
  go := by
    intro H enc W fuel cs x h hw
    obtain ⟨n, rfl, rfl, hm⟩ := DataW.trod_int ht h
    exact ⟨b8 n, trivial, rfl, one_at (arg_u8 hm) rfl⟩
theorem Opn.bool (ht : P.underlying t = some .bool) (hs : P.cellsOf t = 1) : Opn P t (fun b : Bool => [Is (.bool b)]) (fun _ => True) where
  size := fun _ => hs.symm
  go := by
    intro H enc W fuel cs x h hw
    obtain ⟨b, rfl, rfl⟩ := DataW.trod_bool ht h
    exact ⟨b, trivial, rfl, one_at rfl rfl⟩
theorem Opn.map {α β : Type} {f : α → List Ty} {ok : α → Prop} (h : Opn P t f ok) (g : α → β) {f' : β → List Ty} {ok' : β → Prop} (hs : ∀ b, (f' b).length = P.cellsOf t) (hf : ∀ a, f' (g a) = f a) (hok : ∀ a, ok a → ok' (g a)) : Opn P t f' ok' where
  size := hs
  go := by
    intro H enc W fuel cs x hx hw
    obtain ⟨a, h1, h2, h3⟩ := h.go enc W fuel cs x hx hw
    refine ⟨g a, hok a h1, by rw [hf]; exact h2, by rw [hf]; exact h3⟩
theorem add_none (b o n : Nat) : (⟨b, o, none⟩ : Addr).add n = ⟨b, o + n, none⟩ := by
  unfold Addr.add
  split
  · rename_i h; simp [h]
  · rfl
theorem weightsAll_mem {H : Type} {e : TypeId} : ∀ {ds : List (DataW H)} {d : DataW H}, d ∈ ds → ∀ n ∈ d.weights P e, n ∈ DataW.weightsAll P e ds
  | d0 :: ds, d, hd, n, hn => by
    simp only [DataW.weightsAll, List.mem_append]
    rcases List.mem_cons.1 hd with rfl | hd
    · exact .inl hn
    · exact .inr (weightsAll_mem hd n hn)
theorem Opn.slice {e : TypeId} {α : Type} {f : α → List Ty} {ok : α → Prop} (h : Opn P e f ok) (ht : P.underlying t = some (.slice e)) (hs : P.cellsOf t = 1) (hz : Nat.blt 0 (P.cellsOf e) = true) : Opn P t (cL (P.cellsOf e) f) (fun l => l.length * P.bytesOf e ≤ reachBytes ∧ ∀ a ∈ l, ok a) where
  size := fun _ => hs.symm
  go := by
    intro H enc W fuel cs x hx hw
    have hz : 0 < P.cellsOf e := Nat.le_of_ble_eq_true hz
    rcases DataW.trod_slice ht hx with ⟨rfl, rfl⟩ | ⟨a, len, cap, elems, rest, n, rfl, rfl, rfl, _, hlc, hcm, hel, hget, _, _⟩
    · exact ⟨[], ⟨by simp, by simp⟩, rfl, one_at (TSlX.sl (nil_sl _ f _)) rfl⟩
    · have key : ∀ i : Fin len, ∃ y : α, ok y ∧ ∃ cs', W.cells? 0 (a.add (i.val * P.cellsOf e)) (P.cellsOf e) = some cs' ∧ ∀ (j : Nat) (T : Ty) (u : Value), (f y)[j]? = some T → cs'[j]? = some u → T.p (heapImm W) u ∧ u.oneCell' = true := by
        intro i
        have hi := hget i.val i.isLt
        have hlt : i.val < elems.length := by rw [hel]; exact i.isLt
        rw [List.getElem?_eq_getElem hlt, Option.bind_eq_some_iff] at hi
        obtain ⟨cs', h1, h2⟩ := hi
        obtain ⟨y, g1, g2, g3⟩ := h.go enc W n cs' _ h2 (fun m hm => hw m (by
          simp only [DataW.weights, ht]
          refine List.mem_cons_of_mem _ (List.mem_append_left _ ?_)
          exact weightsAll_mem (List.mem_map.2 ⟨_, List.getElem_mem hlt, rfl⟩) m hm))
        exact ⟨y, g1, cs', h1, g3⟩
      let l : List α := List.ofFn fun i : Fin len => (key i).choose
      have hll : l.length = len := by simp [l]
      have hl : ∀ (i : Nat) (y : α), l[i]? = some y → ∃ hi : i < len, y = (key ⟨i, hi⟩).choose := by
        intro i y hy
        have hi : i < len := by have := (List.getElem?_eq_some_iff.1 hy).1; omega
        refine ⟨hi, ?_⟩
        simp only [l, List.getElem?_ofFn, hi, dite_true, Option.some.injEq] at hy
        exact hy.symm
      refine ⟨l, ⟨?_, ?_⟩, rfl, one_at ?_ rfl⟩
      · have := hw ((elems.length + rest.length) * P.bytesOf e) (by simp only [DataW.weights, ht, List.length_map]; exact List.mem_cons_self)
        have h2 : l.length * P.bytesOf e ≤ (elems.length + rest.length) * P.bytesOf e := Nat.mul_le_mul_right _ (by omega)
        omega
      · intro y hy
        obtain ⟨i, hi⟩ := List.mem_iff_getElem?.1 hy
        obtain ⟨hlt, rfl⟩ := hl i y hi
        exact (key ⟨i, hlt⟩).choose_spec.1
      · refine ⟨some a, cap, by rw [hll], by omega, hcm, (fun e => by cases e), (fun e => by cases e), fun ad e => ?_⟩
        cases e
        have hspot : 0 < len → a.spot = none := by
          intro hp
          obtain ⟨_, cs', h1, _⟩ := (key ⟨0, hp⟩).choose_spec
          have h2 := (World.cells?_some h1).2.2 0 hz
          have h3 : ∃ u, W.cell? ((a.add (0 * P.cellsOf e)).add 0) = some u := by
            have h4 := (World.cells?_some h1).2.1
            exact ⟨_, h2.trans (List.getElem?_eq_getElem (by omega))⟩
          obtain ⟨u, hu⟩ := h3
          have := World.cell?_spot hu
          simpa [Addr.add] using this
        refine ⟨fun hp => hspot (by omega), fun i y hy => ⟨h.size y, ?_⟩⟩
        obtain ⟨hlt, rfl⟩ := hl i y hy
        obtain ⟨_, cs', h1, h3⟩ := (key ⟨i, hlt⟩).choose_spec
        have hsp := hspot (by omega)
        intro j T hT
        have hj : j < P.cellsOf e := by have := (List.getElem?_eq_some_iff.1 hT).1; rw [h.size] at this; exact this
        have h5 := World.cells?_some h1
        have hcj : cs'[j]? = some cs'[j] := List.getElem?_eq_getElem (by omega)
        refine ⟨cs'[j], ?_, h3 j T _ hT hcj⟩
        have h6 := h5.2.2 j hj
        rw [hcj] at h6
        show W.cell? _ = _
        rw [← h6]
        obtain ⟨b, o, sp⟩ := a
        have hsp : sp = none := hsp
        subst hsp
        rw [add_none, add_none]
/-! ### structs -/
inductive OpnF (P : Program) : List Field → Nat → Nat → (α : Type) → (α → List Ty) → (α → Prop) → Prop
  | nil (off : Nat) : OpnF P [] off off Unit (fun _ => []) (fun _ => True)
  | cons {fd : Field} {fs : List Field} {off last : Nat} {A B : Type} {fa : A → List Ty} {oka : A → Prop} {fb : B → List Ty} {okb : B → Prop} (ho : fd.offset = off) (h : Opn P fd.type fa oka) (r : OpnF P fs (off + P.cellsOf fd.type) last B fb okb) : OpnF P (fd :: fs) off last (A × B) (fun p => fa p.1 ++ fb p.2) (fun p => oka p.1 ∧ okb p.2)
theorem OpnF.size {fs : List Field} {off last : Nat} {α : Type} {f : α → List Ty} {ok : α → Prop} (h : OpnF P fs off last α f ok) : ∀ a, off + (f a).length = last := by
  induction h with
  | nil off => intro a; simp
  | cons ho h r ih =>
    rintro ⟨a, b⟩
    have h1 := h.size a
    have h2 := ih b
    simp only [List.length_append]; omega
theorem OpnF.go {H : Type} {enc : TypeId × Value → H} {W : World} {fuel : Nat} {cs : List Value} {fs : List Field} {off last : Nat} {α : Type} {f : α → List Ty} {ok : α → Prop} (h : OpnF P fs off last α f ok) (hlen : cs.length = last) :
    ∀ (xs : List (DataW H × List MemPlace)), xs.length = fs.length → (∀ (i : Nat) (fd : Field), fs[i]? = some fd → DataW.trod enc P W 0 (fun _ => true) true fuel fd.type ((cs.drop fd.offset).take (P.cellsOf fd.type)) = xs[i]?) →
      (∀ n ∈ DataW.weightsEach P (fs.map (·.type)) (xs.map (·.1)), n ≤ reachBytes) →
      ∃ a, ok a ∧ ∀ (j : Nat) (T : Ty) (u : Value), (f a)[j]? = some T → cs[off + j]? = some u → T.p (heapImm W) u ∧ u.oneCell' = true := by
  induction h with
  | nil off => intro xs _ _ _; exact ⟨(), trivial, fun j T u hj => by simp at hj⟩
  | cons ho h r ih =>
    rename_i fd fs off last A B fa oka fb okb
    intro xs hl hx hw
    cases xs with
    | nil => simp at hl
    | cons x xs =>
      have h0 := hx 0 fd rfl
      simp only [List.getElem?_cons_zero] at h0
      obtain ⟨a, a1, a2, a3⟩ := h.go enc W fuel _ x h0 (fun n hn => hw n (by simp only [List.map_cons, DataW.weightsEach, List.mem_append]; exact .inl hn))
      obtain ⟨b, b1, b2⟩ := ih hlen xs (by simpa using hl) (fun i fd' hi => by
        have := hx (i + 1) fd' (by simpa using hi)
        simpa using this) (fun n hn => hw n (by simp only [List.map_cons, DataW.weightsEach, List.mem_append]; exact .inr hn))
      refine ⟨(a, b), ⟨a1, b1⟩, fun j T u hj hu => ?_⟩
      dsimp only at hj
      have hsz := h.size a
      by_cases hlt : j < (fa a).length
      · rw [List.getElem?_append_left hlt] at hj
        refine a3 j T u hj ?_
        rw [List.getElem?_take, List.getElem?_drop, if_pos (by omega), ho]
        exact hu
      · rw [List.getElem?_append_right (by omega)] at hj
        refine b2 _ T u hj ?_
        rw [← hu]
        congr 1; omega
theorem Opn.struct {fs : Array Field} {last : Nat} {α : Type} {f : α → List Ty} {ok : α → Prop} (ht : P.underlying t = some (.struct fs)) (hs : P.cellsOf t = last) (h : OpnF P fs.toList 0 last α f ok) : Opn P t f ok where
  size := fun a => by have := h.size a; omega
  go := by
    intro H enc W fuel cs x hx hw
    obtain ⟨xs, n, rfl, rfl, hl, hxl, hf⟩ := DataW.trod_struct ht hx
    obtain ⟨a, a1, a2⟩ := h.go (by omega) xs (by simpa using hxl) (fun i fd hi => hf i fd (by simpa using hi)) (fun n hn => hw n (by simp only [DataW.weights, ht]; exact hn))
    have hsz := h.size a
    exact ⟨a, a1, by omega, fun j T u hj hu => a2 j T u hj (by rw [Nat.zero_add]; exact hu)⟩
/-! ### arguments -/
section
variable {H : Type} {enc : TypeId × Value → H} {W : World} {v : Value} {d : DataW H} {ps : List MemPlace} {α : Type}
theorem Opn.one {T : α → Ty} {ok : α → Prop} (h : Opn P t (fun a => [T a]) ok) (hc : v.cells = #[v]) (hd : DataW.Trod enc P W 0 (fun _ => true) true t v d ps) (hw : ∀ n ∈ d.weights P t, n ≤ reachBytes) : ∃ a, ok a ∧ (T a).p (heapImm W) v := by
  obtain ⟨fuel, hf⟩ := hd
  obtain ⟨a, h1, h2, h3⟩ := h.go enc W fuel _ _ hf hw
  rw [hc] at h3
  exact ⟨a, h1, (h3 0 (T a) v rfl rfl).1⟩
theorem Opn.sl {e : TypeId} {sz : Nat} {f : α → List Ty} {ok : List α → Prop} {r : Reach} {b0 : Nat} (h : Opn P t (cL sz f) ok) (ht : P.underlying t = some (.slice e)) (hval : Value.okWide P W r b0 t v) (hd : DataW.Trod enc P W 0 (fun _ => true) true t v d ps) (hw : ∀ n ∈ d.weights P t, n ≤ reachBytes) : ∃ l, ok l ∧ (TSl sz f l).p (heapImm W) v := by
  obtain ⟨a, len, cap, rfl⟩ := WideShapes.okWide_slice ht hval
  exact Opn.one (T := fun l => TSl sz f l) h rfl hd hw
theorem Opn.st {ok : List UInt8 → Prop} {r : Reach} {b0 : Nat} (h : Opn P t cS ok) (ht : P.underlying t = some .string) (hval : Value.okWide P W r b0 t v) (hd : DataW.Trod enc P W 0 (fun _ => true) true t v d ps) (hw : ∀ n ∈ d.weights P t, n ≤ reachBytes) : ∃ l, ok l ∧ (Is (Vk.str l)).p (heapImm W) v := by
  obtain ⟨s, rfl⟩ := WideShapes.okWide_string ht hval
  exact Opn.one (T := fun l => Is (Vk.str l)) h rfl hd hw
theorem Opn.ag {fs : Array Field} {f : α → List Ty} {ok : α → Prop} {r : Reach} {b0 : Nat} (h : Opn P t f ok) (ht : P.underlying t = some (.struct fs)) (hval : Value.okWide P W r b0 t v) (hd : DataW.Trod enc P W 0 (fun _ => true) true t v d ps) (hw : ∀ n ∈ d.weights P t, n ≤ reachBytes) : ∃ a, ok a ∧ (TAgg (f a)).p (heapImm W) v := by
  obtain ⟨cs, rfl, hcs⟩ := WideShapes.okWide_struct ht hval
  obtain ⟨fuel, hf⟩ := hd
  obtain ⟨a, h1, h2, h3⟩ := h.go enc W fuel _ _ hf hw
  exact ⟨a, h1, cs.toList, by simp, by simpa [Value.cells] using h2, fun j T u hj hu => h3 j T u hj (by simpa [Value.cells] using hu)⟩
end
theorem weights_at {H : Type} {ts : List TypeId} {ds : List (DataW H)} (h : (DataW.weightsEach P ts ds).all (· ≤ reachBytes) = true) {j : Nat} {d : DataW H} (ht : ts[j]? = some t) (hd : ds[j]? = some d) : ∀ n ∈ d.weights P t, n ≤ reachBytes := fun n hn => by
  have := List.all_eq_true.1 h n (DataW.weights_mem_each ht hd n hn)
  simpa using this
theorem reach_le {n : Nat} (h : n ≤ reachBytes) : n ≤ 140737488351232 := h
end
end Go.Vk
set_option linter.unusedVariables false
namespace Go.Dn
open Go.Vk
def kS : List UInt8 := [99, 110, 61, 97, 92, 44, 98, 32, 44, 32, 79, 32, 61, 32, 120, 32, 121]
def kL : List Ava := [⟨[99, 110], [97, 44, 98]⟩, ⟨[79], [120, 32, 121]⟩]
def kT : List UInt8 := [99, 110, 61, 97, 92, 44, 98, 44, 79, 61, 120, 32, 121]
theorem kParse : parseE kS = (kL, 0) := by decide +kernel
theorem kWgt : wgt kL = 11 := by decide +kernel
theorem parseE_len (s : List UInt8) : (parseE s).1.length ≤ 12 := by
  unfold parseE
  split
  · simp
  · split
    · simp
    · split
      · rename_i l _ h
        simp only [isE, Bool.and_eq_true, decide_eq_true_eq] at h
        dsimp only; omega
      · simp
theorem wgt_nil : wgt [] = 0 := rfl
theorem sameE_refl (l : List Ava) : sameE l l = true := decide_eq_true rfl
theorem underE_drop (l : List Ava) (k : Nat) (h : k ≤ l.length) : underE l (l.drop k) = true := by
  unfold underE
  rw [List.length_drop, show l.length - (l.length - k) = k by omega, sameE_refl]
  simp
theorem underE_refl (l : List Ava) : underE l l = true := underE_drop l 0 (Nat.zero_le _)
theorem underE_nil (l : List Ava) : underE l [] = true := by
  have := underE_drop l l.length (Nat.le_refl _)
  rwa [List.drop_length] at this
theorem underE_drop1 (l : List Ava) : underE l (l.drop 1) = true := by
  cases l with
  | nil => exact underE_refl []
  | cons a l => exact underE_drop (a :: l) 1 (by simp)
theorem kPrint : printE kL = kT := by decide +kernel
end Go.Dn
set_option maxRecDepth 8000
set_option linter.unusedVariables false
namespace Go.Proofs.Ytibabbepnhpaiaa
open Go.Vk
attribute [local irreducible] HT HX RegS RegA RegM OpP OpC AltT
attribute [local irreducible] Dn.tellR Dn.tellC Dn.tellE Dn.printR Dn.printC Dn.printE Dn.foldR Dn.foldE Dn.normE Dn.normA Dn.sameE Dn.underE Dn.parseE Dn.isE Dn.typB Dn.wgt
theorem wgt_of {l : List Dn.Ava} (h : ¬ 1000 < Dn.wgt l) : Dn.wgt l ≤ 1048576 := by omega
theorem opnAva : Opn Try.prog 53 Dn.cAva (fun a => a.typ.length ≤ 140737488351232 ∧ a.val.length ≤ 140737488351232) :=
  (Opn.struct Try.underlying53 (by kernel_rfl) (OpnF.cons rfl (Opn.str Try.underlying9 (by kernel_rfl)) (OpnF.cons rfl (Opn.str Try.underlying9 (by kernel_rfl)) (OpnF.nil _)))).map
    (fun p => ⟨p.1, p.2.1⟩) (fun a => by kernel_rfl) (fun p => rfl) (fun p h => ⟨h.1, h.2.1⟩)
theorem opnAvas : Opn Try.prog 22 (cL 2 Dn.cAva) (fun l => l.length ≤ 140737488351232 ∧ ∀ a ∈ l, a.typ.length ≤ 140737488351232 ∧ a.val.length ≤ 140737488351232) := by
  have h := Opn.slice opnAva Try.underlying22 (by kernel_rfl) (by kernel_rfl)
  rw [show Try.prog.cellsOf 53 = 2 by kernel_rfl] at h
  have hb : Try.prog.bytesOf 53 = 32 := by kernel_rfl
  exact h.map id (fun l => by rw [show Try.prog.cellsOf 22 = 1 by kernel_rfl]; rfl) (fun _ => rfl) (fun l hl => ⟨by have := reach_le hl.1; rw [hb] at this; show l.length ≤ _; omega, hl.2⟩)
end Go.Proofs.Ytibabbepnhpaiaa
set_option linter.unusedVariables false
namespace Go.Oct
open Go.Vk
/-- A number: seven bits to a byte, the lowest first. -/
def numB (n : Nat) : List UInt8 := if h : n < 128 then [b8 (n : Int)] else (b8 (n : Int) ||| b8 128) :: numB (n / 128)
theorem numB_lt {n : Nat} (h : n < 128) : numB n = [b8 (n : Int)] := by rw [numB]; simp [h]
theorem numB_ge {n : Nat} (h : ¬ n < 128) : numB n = (b8 (n : Int) ||| b8 128) :: numB (n / 128) := by rw [numB]; simp [h]
theorem numB_len (k : Nat) : ∀ n : Nat, n < 128 ^ (k + 1) → 1 ≤ (numB n).length ∧ (numB n).length ≤ k + 1 := by
  induction k with
  | zero => intro n hn; rw [numB_lt (by omega)]; simp
  | succ k ih =>
    intro n hn
    by_cases h : n < 128
    · rw [numB_lt h]; simp
    · rw [numB_ge h]
      have := ih (n / 128) (by rw [Nat.div_lt_iff_lt_mul (by decide)]; calc n < 128 ^ (k + 1 + 1) := hn
            _ = 128 ^ (k + 1) * 128 := Nat.pow_succ ..)
      simp only [List.length_cons]
      omega
theorem numB_le {n : Nat} (h : n ≤ 4611686018427387904) : 1 ≤ (numB n).length ∧ (numB n).length ≤ 9 := numB_len 8 n (by omega)
def bytB (l : List UInt8) : List UInt8 := numB l.length ++ l
theorem b8_mod (n : Int) : b8 (n % 256) = b8 n := by
  unfold b8
  congr 1
  omega
theorem low7_tab : ∀ i : Fin 256, (b8 ((i.val : Int) % 128) ||| b8 128) = (b8 (i.val : Int) ||| b8 128) := by decide +kernel
theorem low7 (n : Nat) : (b8 ((n : Int) % 128) ||| b8 128) = (b8 (n : Int) ||| b8 128) := by
  have h := low7_tab ⟨n % 256, by omega⟩
  have e1 : (((n % 256 : Nat) : Int) % 128) = (n : Int) % 128 := by omega
  have e2 : b8 ((n % 256 : Nat) : Int) = b8 (n : Int) := by
    rw [show ((n % 256 : Nat) : Int) = (n : Int) % 256 by omega, b8_mod]
  simp only [e1, e2] at h
  exact h
theorem numB_snoc {n : Nat} (h : ¬ n < 128) (l : List UInt8) : l ++ [b8 (n : Int) ||| b8 128] ++ numB (n / 128) = l ++ numB n := by
  rw [numB_ge h]; simp
theorem numB_snoc7 {n : Nat} (h : ¬ n < 128) (l : List UInt8) : l ++ [b8 ((n : Int) % 128) ||| b8 128] ++ numB (n / 128) = l ++ numB n := by
  rw [low7, numB_snoc h]
theorem flat_snoc {α β : Type} [Inhabited α] {l : List α} {i : Nat} (f : α → List β) (h : i < l.length) : (l.take (i + 1)).flatMap f = (l.take i).flatMap f ++ f (l.getD i default) := by
  rw [List.take_succ_eq_append_getElem h, List.flatMap_append, List.getD_eq_getElem?_getD, List.getElem?_eq_getElem h]; simp
theorem flat_part {α β : Type} {l : List α} (f : α → List β) (i : Nat) : ((l.take i).flatMap f).length ≤ (l.flatMap f).length := by
  conv => rhs; rw [← List.take_append_drop i l, List.flatMap_append, List.length_append]
  omega
/-- A number read: what it is, what is left; i bytes were read, they say u. -/
def rdF (i : Nat) (u : Int) : List UInt8 → Option (Int × List UInt8)
  | [] => none
  | c :: r =>
    if 9 ≤ (i : Int) ∨ (0 < (i : Int) ∧ (c.toNat : Int) = 0) then none
    else if (c.toNat : Int) < 128 then (if 4611686018427387904 < orU u (shlU ((c &&& b8 127).toNat : Int) (7 * (i : Int))) then none else some (orU u (shlU ((c &&& b8 127).toNat : Int) (7 * (i : Int))), r))
    else rdF (i + 1) (orU u (shlU ((c &&& b8 127).toNat : Int) (7 * (i : Int)))) r
def numV (l : List UInt8) : Int := match rdF 0 0 l with | none => 0 | some x => x.1
def numT (l : List UInt8) : List UInt8 := match rdF 0 0 l with | none => [] | some x => x.2
def numE (l : List UInt8) (b : Bool) : Bool := match rdF 0 0 l with | none => true | some _ => b
theorem num_none {l : List UInt8} (h : rdF 0 0 l = none) (b : Bool) : numV l = 0 ∧ numT l = [] ∧ numE l b = true := by unfold numV numT numE; rw [h]; simp
theorem num_some {l : List UInt8} {x : Int × List UInt8} (h : rdF 0 0 l = some x) (b : Bool) : numV l = x.1 ∧ numT l = x.2 ∧ numE l b = b := by unfold numV numT numE; rw [h]; simp
theorem noneV {l : List UInt8} (h : rdF 0 0 l = none) : 0 = numV l := (num_none h true).1.symm
theorem noneT {l : List UInt8} (h : rdF 0 0 l = none) : [] = numT l := (num_none h true).2.1.symm
theorem noneE {l : List UInt8} (h : rdF 0 0 l = none) {b : Bool} : true = numE l b := (num_none h b).2.2.symm
theorem someV {l : List UInt8} {u : Int} {r : List UInt8} (h : rdF 0 0 l = some (u, r)) : u = numV l := (num_some h true).1.symm
theorem someT {l : List UInt8} {u : Int} {r r' : List UInt8} (h : rdF 0 0 l = some (u, r)) (e : r' = r) : r' = numT l := e.trans (num_some h true).2.1.symm
theorem someE {l : List UInt8} {u : Int} {r : List UInt8} (h : rdF 0 0 l = some (u, r)) {b : Bool} : b = numE l b := (num_some h b).2.2.symm
theorem drop_at {l : List UInt8} {i : Nat} (h : i < l.length) : l.drop i = l.getD i 0 :: l.drop (i + 1) := by
  rw [List.drop_eq_getElem_cons h]; simp [List.getD, h]
theorem rd_end {l : List UInt8} {i : Nat} {u : Int} (h : ¬ i < l.length) : rdF i u (l.drop i) = none := by
  rw [List.drop_of_length_le (by omega)]; rfl
theorem rd_bad {l : List UInt8} {i : Nat} {u : Int} (h : i < l.length) (k : 9 ≤ (i : Int) ∨ (0 < (i : Int) ∧ ((l.getD i 0).toNat : Int) = 0)) : rdF i u (l.drop i) = none := by
  rw [drop_at h, rdF, if_pos k]
theorem rd_great {l : List UInt8} {i : Nat} {u : Int} (h : i < l.length) (k : ((l.getD i 0).toNat : Int) < 128) (g : 4611686018427387904 < orU u (shlU ((l.getD i 0 &&& b8 127).toNat : Int) (7 * (i : Int)))) : rdF i u (l.drop i) = none := by
  rw [drop_at h, rdF, if_pos k, if_pos g]; simp
theorem rd_good {l : List UInt8} {i : Nat} {u : Int} (h : i < l.length) (b : ¬ (9 ≤ (i : Int) ∨ (0 < (i : Int) ∧ ((l.getD i 0).toNat : Int) = 0))) (k : ((l.getD i 0).toNat : Int) < 128) (g : ¬ 4611686018427387904 < orU u (shlU ((l.getD i 0 &&& b8 127).toNat : Int) (7 * (i : Int)))) : rdF i u (l.drop i) = some (orU u (shlU ((l.getD i 0 &&& b8 127).toNat : Int) (7 * (i : Int))), l.drop (i + 1)) := by
  rw [drop_at h, rdF, if_neg b, if_pos k, if_neg g]
theorem rd_no {l : List UInt8} {i : Nat} {u : Int} (h : i < l.length) (k : (9 ≤ (i : Int) ∨ (0 < (i : Int) ∧ ((l.getD i 0).toNat : Int) = 0)) ∨ ((l.getD i 0).toNat : Int) < 128 ∧ 4611686018427387904 < orU u (shlU ((l.getD i 0 &&& b8 127).toNat : Int) (7 * (i : Int)))) : rdF i u (l.drop i) = none := by
  rcases k with k | ⟨k, g⟩
  · exact rd_bad h k
  · exact rd_great h k g
theorem rd_next {l : List UInt8} {i : Nat} {u : Int} (h : i < l.length) (b : ¬ (9 ≤ (i : Int) ∨ (0 < (i : Int) ∧ ((l.getD i 0).toNat : Int) = 0))) (k : ¬ ((l.getD i 0).toNat : Int) < 128) : rdF i u (l.drop i) = rdF (i + 1) (orU u (shlU ((l.getD i 0 &&& b8 127).toNat : Int) (7 * (i : Int)))) (l.drop (i + 1)) := by
  rw [drop_at h, rdF, if_neg b, if_neg k]
theorem orU_bd (m n : Int) : 0 ≤ orU m n ∧ orU m n < 18446744073709551616 := by
  unfold orU bitsOf
  dsimp only
  generalize (BitVec.ofInt IntKind.u64.bits m ||| BitVec.ofInt IntKind.u64.bits n) = b
  have hlt : b.toNat < 18446744073709551616 := b.isLt
  have e : IntKind.u64.wrap (b.toNat : Int) = (b.toNat : Int) := InK.u64 (by omega)
  rw [e]
  omega
theorem orU_nat {m n : Nat} (hm : m < 18446744073709551616) (hn : n < 18446744073709551616) : orU (m : Int) (n : Int) = ((m ||| n : Nat) : Int) := by
  unfold orU bitsOf
  dsimp only
  have h2 : IntKind.u64.bits = 64 := rfl
  have e : (BitVec.ofInt IntKind.u64.bits (m : Int) ||| BitVec.ofInt IntKind.u64.bits (n : Int)).toNat = m ||| n := by
    rw [BitVec.toNat_or, BitVec.toNat_ofInt, BitVec.toNat_ofInt, h2]
    congr 1 <;> omega
  rw [e]
  refine InK.u64 ?_
  have : m ||| n < 2 ^ 64 := Nat.or_lt_two_pow (by omega) (by omega)
  omega
theorem shlU_nat {m k : Nat} (h : m * 2 ^ k < 18446744073709551616) : shlU (m : Int) (k : Int) = ((m * 2 ^ k : Nat) : Int) := by
  unfold shlU
  have e : ((m : Int) * 2 ^ (k : Int).toNat) = ((m * 2 ^ k : Nat) : Int) := by
    rw [Int.toNat_natCast]; simp
  rw [e]
  exact InK.u64 (by omega)
/-- The tenth byte never does. -/
theorem or_high {u : Int} (hu : 0 ≤ u ∧ u < 18446744073709551616) : 4611686018427387904 < orU u (shlU 1 63) := by
  have h1 : shlU 1 63 = ((9223372036854775808 : Nat) : Int) := shlU_nat (m := 1) (k := 63) (by decide)
  obtain ⟨m, rfl⟩ : ∃ m : Nat, u = (m : Int) := ⟨u.toNat, by omega⟩
  rw [h1, orU_nat (by omega) (by decide)]
  have : 9223372036854775808 ≤ m ||| 9223372036854775808 := Nat.right_le_or
  omega
theorem or_nine {u i : Int} {c : UInt8} (hu : 0 ≤ u ∧ u < 18446744073709551616) : i = 9 → (c.toNat : Int) = 1 → 4611686018427387904 < orU u (shlU ((c &&& b8 127).toNat : Int) (7 * i)) := by
  rintro rfl hc
  have e : c = 1 := UInt8.toNat_inj.1 (by show c.toNat = 1; omega)
  subst e
  exact or_high hu
/-- The first n bytes. -/
def rawV (l : List UInt8) (n : Int) : List UInt8 := if n < 0 ∨ (l.length : Int) < n then [] else l.take n.toNat
def rawT (l : List UInt8) (n : Int) : List UInt8 := if n < 0 ∨ (l.length : Int) < n then [] else l.drop n.toNat
def rawE (l : List UInt8) (n : Int) (b : Bool) : Bool := if n < 0 ∨ (l.length : Int) < n then true else b
theorem raw_no {l : List UInt8} {n : Int} (h : n < 0 ∨ (l.length : Int) < n) (b : Bool) : rawV l n = [] ∧ rawT l n = [] ∧ rawE l n b = true := by unfold rawV rawT rawE; simp [h]
theorem raw_yes {l : List UInt8} {n : Int} (h : ¬ (n < 0 ∨ (l.length : Int) < n)) (b : Bool) : rawV l n = l.take n.toNat ∧ rawT l n = l.drop n.toNat ∧ rawE l n b = b := by unfold rawV rawT rawE; simp [h]
theorem raw_one {l : List UInt8} {i : Nat} (h : i < l.length) (b : Bool) : rawV (l.drop i) 1 = [l.getD i 0] ∧ rawT (l.drop i) 1 = l.drop (i + 1) ∧ rawE (l.drop i) 1 b = b := by
  obtain ⟨e1, e2, e3⟩ := raw_yes (l := l.drop i) (n := 1) (by rw [List.length_drop]; omega) b
  refine ⟨?_, ?_, e3⟩
  · rw [e1, drop_at h]; rfl
  · rw [e2, List.drop_drop]; rfl
theorem raw_end {l : List UInt8} {i : Nat} (h : ¬ i < l.length) (b : Bool) : rawV (l.drop i) 1 = [] ∧ rawT (l.drop i) 1 = [] ∧ rawE (l.drop i) 1 b = true := raw_no (by rw [List.length_drop]; omega) b
theorem rdF_len (l : List UInt8) : ∀ (i : Nat) (u : Int) (x : Int × List UInt8), rdF i u l = some x → x.2.length < l.length := by
  induction l with
  | nil => intro i u x h; simp [rdF] at h
  | cons c r ih =>
    intro i u x h
    rw [rdF] at h
    split at h
    · cases h
    split at h
    · split at h
      · cases h
      · cases h; simp
    · have := ih _ _ _ h; simp; omega
theorem numT_len (l : List UInt8) : (numT l).length ≤ l.length := by
  unfold numT
  cases h : rdF 0 0 l with
  | none => simp
  | some x => have := rdF_len l 0 0 x h; simp; omega
theorem numE_nil {l : List UInt8} {b : Bool} (hb : b = true → l = []) : numE l b = true → numT l = [] := by
  unfold numE numT
  cases h : rdF 0 0 l with
  | none => simp
  | some x =>
    dsimp only
    intro h2
    have := rdF_len l 0 0 x h
    rw [hb h2] at this
    simp at this
theorem numV_of {l : List UInt8} {b : Bool} (h : numE l b = true) (hb : b = true → l = []) : numV l = 0 := by
  unfold numE at h
  unfold numV
  cases h2 : rdF 0 0 l with
  | none => rfl
  | some x =>
    rw [h2] at h
    dsimp only at h
    have := rdF_len l 0 0 x h2
    rw [hb h] at this
    simp at this
theorem raw_nil : rawV [] 0 = [] ∧ rawT [] 0 = [] ∧ ∀ b, rawE [] 0 b = b := by
  refine ⟨?_, ?_, fun b => ?_⟩ <;> simp [rawV, rawT, rawE]
theorem rawT_len (l : List UInt8) (n : Int) : (rawT l n).length ≤ l.length := by unfold rawT; split <;> simp
theorem rawE_nil {l : List UInt8} {n : Int} {b : Bool} (hb : b = true → l = []) : rawE l n b = true → rawT l n = [] := by
  unfold rawE rawT
  split
  · simp
  · intro h; rw [hb h]; simp
def bytV (l : List UInt8) : List UInt8 := rawV (numT l) (numV l)
def bytT (l : List UInt8) : List UInt8 := rawT (numT l) (numV l)
def bytE (l : List UInt8) (b : Bool) : Bool := rawE (numT l) (numV l) (numE l b)
end Go.Oct
set_option linter.unusedVariables false
namespace Go.En
open Go.Vk Go.Oct
open Go.Dn (Ava cAva typB isE okA)
/-- An attribute; an entry. -/
structure Attr where
  typ : List UInt8
  vals : List (List UInt8)
instance : Inhabited Attr := ⟨⟨[], []⟩⟩
abbrev cS (s : List UInt8) : List Ty := [Is (str s)]
def cAttr (a : Attr) : List Ty := [Is (str a.typ), TSl 1 cS a.vals]
structure Entry where
  dn : List Ava
  attrs : List Attr
def cEnt (e : Entry) : List Ty := [TSl 2 cAva e.dn, TSl 2 cAttr e.attrs]
def okV (v : List UInt8) : Bool := decide ((v.length : Int) ≤ 256)
def okT (a : Attr) : Bool := typB a.typ && decide (1 ≤ (a.vals.length : Int)) && decide ((a.vals.length : Int) ≤ 16) && a.vals.all okV
def isN (e : Entry) : Bool := isE e.dn && decide ((e.attrs.length : Int) ≤ 16) && e.attrs.all okT
def avaB (a : Ava) : List UInt8 := bytB a.typ ++ bytB a.val
def attrB (a : Attr) : List UInt8 := bytB a.typ ++ numB a.vals.length ++ a.vals.flatMap bytB
def encB (e : Entry) : List UInt8 := numB e.dn.length ++ e.dn.flatMap avaB ++ numB e.attrs.length ++ e.attrs.flatMap attrB
/-! ### lists -/
section
variable {α : Type}
theorem getD_mem [Inhabited α] {l : List α} {i : Nat} (h : i < l.length) : l.getD i default ∈ l := by
  rw [List.getD_eq_getElem?_getD, List.getElem?_eq_getElem h]; exact List.getElem_mem h
theorem flat_snoc [Inhabited α] {β : Type} {l : List α} {i : Nat} (f : α → List β) (h : i < l.length) : (l.take (i + 1)).flatMap f = (l.take i).flatMap f ++ f (l.getD i default) := by
  rw [List.take_succ_eq_append_getElem h, List.flatMap_append, List.getD_eq_getElem?_getD, List.getElem?_eq_getElem h]; simp
theorem flat_end {β : Type} {l : List α} {i : Nat} (f : α → List β) (h : ¬ i < l.length) : (l.take i).flatMap f = l.flatMap f := by
  rw [List.take_of_length_le (by omega)]
theorem flat_len {β : Type} {l : List α} {f : α → List β} {k : Nat} (h : ∀ a ∈ l, (f a).length ≤ k) : (l.flatMap f).length ≤ l.length * k := by
  induction l with
  | nil => simp
  | cons a l ih =>
    have h1 := h a (by simp)
    have h2 := ih (fun b hb => h b (by simp [hb]))
    rw [List.flatMap_cons, List.length_append, List.length_cons, Nat.succ_mul]
    omega
theorem flat_take {β : Type} {l : List α} {f : α → List β} {k n : Nat} (h : ∀ a ∈ l, (f a).length ≤ k) (hn : l.length ≤ n) (i : Nat) : ((l.take i).flatMap f).length ≤ n * k := by
  refine Nat.le_trans (flat_len (k := k) fun a ha => h a (List.mem_of_mem_take ha)) (Nat.mul_le_mul_right k ?_)
  rw [List.length_take]; omega
theorem all_snoc [Inhabited α] {p : α → Bool} {l : List α} {i : Nat} (h : i < l.length) (h1 : (l.take i).all p = true) (h2 : p (l.getD i default) = true) : (l.take (i + 1)).all p = true := by
  rw [List.take_succ_eq_append_getElem h, List.all_append, h1]
  rw [List.getD_eq_getElem?_getD, List.getElem?_eq_getElem h] at h2
  simpa using h2
theorem all_no [Inhabited α] {p : α → Bool} {l : List α} {i : Nat} (h : i < l.length) (h1 : p (l.getD i default) = false) : l.all p = false := by
  rw [List.all_eq_false]; exact ⟨_, getD_mem h, by rw [h1]; simp⟩
def ixOf (p : α → Bool) (l : List α) : Int := if l.any p = true then (l.findIdx p : Int) else -1
theorem any_snoc [Inhabited α] {p : α → Bool} {l : List α} {i : Nat} (h : i < l.length) (h1 : (l.take i).any p = false) (h2 : p (l.getD i default) = false) : (l.take (i + 1)).any p = false := by
  rw [List.take_succ_eq_append_getElem h, List.any_append, h1]
  rw [List.getD_eq_getElem?_getD, List.getElem?_eq_getElem h] at h2
  simpa using h2
theorem ixOf_none {p : α → Bool} {l : List α} (h : l.any p = false) : ixOf p l = -1 := by unfold ixOf; rw [h]; rfl
theorem ixOf_at [Inhabited α] {p : α → Bool} {l : List α} {i : Nat} (h : i < l.length) (h1 : (l.take i).any p = false) (h2 : p (l.getD i default) = true) : ixOf p l = i := by
  have h3 : p l[i] = true := by rw [List.getD_eq_getElem?_getD, List.getElem?_eq_getElem h] at h2; exact h2
  have h4 : l.any p = true := List.any_eq_true.2 ⟨l[i], List.getElem_mem h, h3⟩
  unfold ixOf
  rw [if_pos h4]
  congr 1
  rw [List.findIdx_eq h]
  refine ⟨h3, fun j hj => ?_⟩
  rw [List.any_eq_false] at h1
  have := h1 (l[j]) (List.mem_take_iff_getElem.2 ⟨j, by omega, rfl⟩)
  simpa using this
theorem ixOf_nonneg {p : α → Bool} {l : List α} : decide (0 ≤ ixOf p l) = l.any p := by
  unfold ixOf
  cases h : l.any p
  · rfl
  · simp
end
section
variable {α : Type} [Inhabited α]
theorem take_ext {l m : List α} {i : Nat} (h : i < l.length) (hc : l.length = m.length) (he : l.take i = m.take i) (h2 : l.getD i default = m.getD i default) : l.take (i + 1) = m.take (i + 1) := by
  have h' : i < m.length := by omega
  rw [List.getD_eq_getElem?_getD, List.getElem?_eq_getElem h, List.getD_eq_getElem?_getD, List.getElem?_eq_getElem h'] at h2
  have h3 : l[i] = m[i] := h2
  rw [List.take_succ_eq_append_getElem h, List.take_succ_eq_append_getElem h', he, h3]
end
theorem take_all {α : Type} {l m : List α} {i : Nat} (h : ¬ (i : Int) < (l.length : Int)) (hc : l.length = m.length) (he : l.take i = m.take i) : l = m := by
  rwa [List.take_of_length_le (by omega), List.take_of_length_le (by omega)] at he
theorem Attr.ext' {a b : Attr} (h1 : a.typ = b.typ) (h2 : a.vals = b.vals) : a = b := by cases a; cases b; simp at h1 h2; rw [h1, h2]
instance : DecidableEq Attr := fun a b => decidable_of_iff (a.typ = b.typ ∧ a.vals = b.vals) ⟨fun h => Attr.ext' h.1 h.2, fun h => by rw [h]; exact ⟨rfl, rfl⟩⟩
theorem Entry.ext' {a b : Entry} (h1 : a.dn = b.dn) (h2 : a.attrs = b.attrs) : a = b := by cases a; cases b; simp at h1 h2; rw [h1, h2]
instance : DecidableEq Entry := fun a b => decidable_of_iff (a.dn = b.dn ∧ a.attrs = b.attrs) ⟨fun h => Entry.ext' h.1 h.2, fun h => by rw [h]; exact ⟨rfl, rfl⟩⟩
theorem okT_any (a : Attr) : okT a = (typB a.typ && decide (1 ≤ (a.vals.length : Int)) && decide ((a.vals.length : Int) ≤ 16) && !a.vals.any (fun v => decide (256 < (v.length : Int)))) := by
  unfold okT
  rw [List.not_any_eq_all_not]
  congr 2
  funext v
  unfold okV
  by_cases h : (v.length : Int) ≤ 256
  · have : ¬ 256 < (v.length : Int) := by omega
    simp [h, this]
  · have : 256 < (v.length : Int) := by omega
    simp [h, this]
theorem isN_any (e : Entry) : isN e = (isE e.dn && decide ((e.attrs.length : Int) ≤ 16) && !e.attrs.any (fun a => !okT a)) := by
  unfold isN
  rw [List.not_any_eq_all_not]
  simp
theorem isN_no1 {e : Entry} (h : isE e.dn = false ∨ 16 < (e.attrs.length : Int)) : isN e = false := by
  unfold isN
  rcases h with h | h
  · rw [h]; simp
  · rw [decide_eq_false (p := (e.attrs.length : Int) ≤ 16) (by omega)]; simp
theorem isN_yes {e : Entry} (h1 : isE e.dn = true) (h2 : ¬ 16 < (e.attrs.length : Int)) (h3 : e.attrs.all okT = true) : isN e = true := by
  unfold isN
  rw [h1, h3, decide_eq_true (p := (e.attrs.length : Int) ≤ 16) (by omega)]; rfl
theorem isN_no2 {e : Entry} {i : Nat} (h : i < e.attrs.length) (h1 : okT (e.attrs.getD i default) = false) : isN e = false := by
  unfold isN
  rw [all_no h h1]; simp
theorem okT_no1 {a : Attr} (h : (typB a.typ = false ∨ (a.vals.length : Int) < 1) ∨ 16 < (a.vals.length : Int)) : okT a = false := by
  unfold okT
  rcases h with (h | h) | h
  · rw [h]; simp
  · rw [decide_eq_false (p := 1 ≤ (a.vals.length : Int)) (by omega)]; simp
  · rw [decide_eq_false (p := (a.vals.length : Int) ≤ 16) (by omega)]; simp
theorem okT_no2 {a : Attr} {i : Nat} (h : i < a.vals.length) (h1 : 256 < ((a.vals.getD i default).length : Int)) : okT a = false := by
  unfold okT
  rw [all_no (p := okV) h (decide_eq_false (by omega))]; simp
theorem okT_yes {a : Attr} (h1 : (typB a.typ = true ∧ ¬ (a.vals.length : Int) < 1) ∧ ¬ 16 < (a.vals.length : Int)) (h2 : a.vals.all okV = true) : okT a = true := by
  unfold okT
  rw [h1.1.1, h2, decide_eq_true (p := 1 ≤ (a.vals.length : Int)) (by omega), decide_eq_true (p := (a.vals.length : Int) ≤ 16) (by omega)]; rfl
theorem okV_yes {v : List UInt8} (h : ¬ 256 < (v.length : Int)) : okV v = true := decide_eq_true (by omega)
theorem ava_snoc {l : List Ava} {i : Nat} (h : i < l.length) : (l.take (i + 1)).flatMap avaB = (l.take i).flatMap avaB ++ (bytB (l.getD i default).typ ++ bytB (l.getD i default).val) := flat_snoc avaB h
theorem attr_snoc {l : List Attr} {i : Nat} (h : i < l.length) : (l.take (i + 1)).flatMap attrB = (l.take i).flatMap attrB ++ (bytB (l.getD i default).typ ++ numB (l.getD i default).vals.length ++ (l.getD i default).vals.flatMap bytB) := flat_snoc attrB h
/-- Nothing is too long to be walked through. -/
def sane (e : Entry) : Prop := e.dn.length ≤ 1152921504606846976 ∧ (∀ a ∈ e.dn, a.typ.length ≤ 1152921504606846976) ∧ e.attrs.length ≤ 1152921504606846976 ∧ ∀ a ∈ e.attrs, a.typ.length ≤ 1152921504606846976 ∧ a.vals.length ≤ 1152921504606846976
theorem bytB_len {l : List UInt8} {k : Nat} (h : l.length ≤ k) (hk : k ≤ 1000000) : (bytB l).length ≤ 9 + k := by
  have := numB_le (n := l.length) (by omega)
  unfold bytB
  rw [List.length_append]; omega
theorem typ_len {t : List UInt8} (h : typB t = true) : t.length ≤ 32 := by
  have := (Dn.typB_iff t).1 h
  omega
theorem okA_bd {a : Ava} (h : okA a = true) : a.typ.length ≤ 32 ∧ a.val.length ≤ 64 := by
  unfold okA at h
  simp only [Bool.and_eq_true, decide_eq_true_eq] at h
  exact ⟨typ_len h.1.1, by omega⟩
theorem okT_bd {a : Attr} (h : okT a = true) : a.typ.length ≤ 32 ∧ a.vals.length ≤ 16 ∧ ∀ v ∈ a.vals, v.length ≤ 256 := by
  unfold okT at h
  simp only [Bool.and_eq_true, decide_eq_true_eq, List.all_eq_true] at h
  refine ⟨typ_len h.1.1.1, by omega, fun v hv => ?_⟩
  have := h.2 v hv
  unfold okV at this
  simp only [decide_eq_true_eq] at this
  omega
theorem isN_bd {e : Entry} (h : isN e = true) : e.dn.length ≤ 12 ∧ (∀ a ∈ e.dn, a.typ.length ≤ 32 ∧ a.val.length ≤ 64) ∧ e.attrs.length ≤ 16 ∧ ∀ a ∈ e.attrs, a.typ.length ≤ 32 ∧ a.vals.length ≤ 16 ∧ ∀ v ∈ a.vals, v.length ≤ 256 := by
  unfold isN isE at h
  simp only [Bool.and_eq_true, decide_eq_true_eq, List.all_eq_true] at h
  exact ⟨by omega, fun a ha => okA_bd (h.1.1.2 a ha), by omega, fun a ha => okT_bd (h.2 a ha)⟩
theorem avaB_len {a : Ava} (h : a.typ.length ≤ 32 ∧ a.val.length ≤ 64) : (avaB a).length ≤ 200 := by
  have h1 := bytB_len (l := a.typ) (k := 32) h.1 (by omega)
  have h2 := bytB_len (l := a.val) (k := 64) h.2 (by omega)
  unfold avaB
  rw [List.length_append]; omega
theorem attrB_len {a : Attr} (h : a.typ.length ≤ 32 ∧ a.vals.length ≤ 16 ∧ ∀ v ∈ a.vals, v.length ≤ 256) : (attrB a).length ≤ 5000 := by
  have h1 := bytB_len (l := a.typ) (k := 32) h.1 (by omega)
  have h2 := flat_len (l := a.vals) (f := bytB) (k := 265) (fun v hv => bytB_len (k := 256) (h.2.2 v hv) (by omega))
  have h3 := numB_le (n := a.vals.length) (by omega)
  have h4 : a.vals.length * 265 ≤ 16 * 265 := Nat.mul_le_mul_right _ h.2.1
  unfold attrB
  rw [List.length_append, List.length_append]; omega
end Go.En
set_option maxRecDepth 8000
set_option linter.unusedVariables false
namespace Go.Proofs.Ytibabbepnhpaiaa
open Go.Vk
attribute [local irreducible] HT HX RegS RegA RegM OpP OpC AltT
attribute [local irreducible] Dn.typB Dn.isE Dn.okA
theorem ixTxt {f : FuncId} {Cs : List Ty} (l : List (List UInt8)) (p : List UInt8 → Bool) (hl : l.length ≤ 1152921504606846976) (cf : ∀ a ∈ l, CFn Try.prog f ([Is (str a)] ++ Cs) (Is (.bool (p a)))) : CFn Try.prog 63 [TSl 1 En.cS l, TFn f Cs] (okI .i64 (En.ixOf p l)) := by
  refine CallsC.of Try.call63 Try.func63 rfl Try.ntmps63 rfl fun w0 G0 S0 hs ho => ?_
  refine run ?_
  refine HT.loopX (σ := Nat) [0, 1, 7] (fun i => [(8, okI .i64 (i : Int))]) (fun i => []) (fun i => i ≤ l.length ∧ (l.take i).any p = false) (fun i => l.length - i) 0 ⟨by omega, by simp⟩ (run trivial) (run trivial) ?_
  rintro i ⟨hi, hp⟩
  have cf' := fun (hlt : i < l.length) => cf (l.getD i default) (En.getD_mem hlt)
  clear cf
  refine run ?_
  refine ⟨fun h1 h2 => ?_, fun h1 h2 => ?_, fun h1 => ?_⟩
  · exact (En.ixOf_at (by omega) hp h2).symm
  · exact HX.roundX (i + 1) ⟨⟨by omega, En.any_snoc (by omega) hp h2⟩, by omega⟩ rfl (run trivial) (run trivial)
  · exact (En.ixOf_none (by rwa [List.take_of_length_le (by omega)] at hp)).symm
theorem anyTxt {f : FuncId} {Cs : List Ty} (l : List (List UInt8)) (p : List UInt8 → Bool) (hl : l.length ≤ 1152921504606846976) (cf : ∀ a ∈ l, CFn Try.prog f ([Is (str a)] ++ Cs) (Is (.bool (p a)))) : CFn Try.prog 57 [TSl 1 En.cS l, TFn f Cs] (Is (.bool (l.any p))) := by
  have c1 := ixTxt l p hl cf
  refine CallsC.of Try.call57 Try.func57 rfl Try.ntmps57 rfl fun w0 G0 S0 hs ho => ?_
  refine run ?_
  exact En.ixOf_nonneg
theorem ixAttr {f : FuncId} {Cs : List Ty} (l : List En.Attr) (p : En.Attr → Bool) (hl : l.length ≤ 1152921504606846976) (cf : ∀ a ∈ l, CFn Try.prog f ([TAgg (En.cAttr a)] ++ Cs) (Is (.bool (p a)))) : CFn Try.prog 56 [TSl 2 En.cAttr l, TFn f Cs] (okI .i64 (En.ixOf p l)) := by
  refine CallsC.of Try.call56 Try.func56 rfl Try.ntmps56 rfl fun w0 G0 S0 hs ho => ?_
  refine run ?_
  refine HT.loopX (σ := Nat) [0, 1, 7] (fun i => [(8, okI .i64 (i : Int))]) (fun i => []) (fun i => i ≤ l.length ∧ (l.take i).any p = false) (fun i => l.length - i) 0 ⟨by omega, by simp⟩ (run trivial) (run trivial) ?_
  rintro i ⟨hi, hp⟩
  have cf' := fun (hlt : i < l.length) => cf (l.getD i default) (En.getD_mem hlt)
  clear cf
  refine run ?_
  refine ⟨fun h1 h2 => ?_, fun h1 h2 => ?_, fun h1 => ?_⟩
  · exact (En.ixOf_at (by omega) hp h2).symm
  · exact HX.roundX (i + 1) ⟨⟨by omega, En.any_snoc (by omega) hp h2⟩, by omega⟩ rfl (run trivial) (run trivial)
  · exact (En.ixOf_none (by rwa [List.take_of_length_le (by omega)] at hp)).symm
theorem anyAttr {f : FuncId} {Cs : List Ty} (l : List En.Attr) (p : En.Attr → Bool) (hl : l.length ≤ 1152921504606846976) (cf : ∀ a ∈ l, CFn Try.prog f ([TAgg (En.cAttr a)] ++ Cs) (Is (.bool (p a)))) : CFn Try.prog 33 [TSl 2 En.cAttr l, TFn f Cs] (Is (.bool (l.any p))) := by
  have c1 := ixAttr l p hl cf
  refine CallsC.of Try.call33 Try.func33 rfl Try.ntmps33 rfl fun w0 G0 S0 hs ho => ?_
  refine run ?_
  exact En.ixOf_nonneg
theorem enVal1 (v : List UInt8) : CFn Try.prog 58 [Is (str v)] (Is (.bool (decide (256 < (v.length : Int))))) := by
  refine CallsC.of Try.call58 Try.func58 rfl Try.ntmps58 rfl fun w0 G0 S0 hs ho => ?_
  exact run trivial
theorem enIsAttr (a : En.Attr) (h : a.typ.length ≤ 1152921504606846976 ∧ a.vals.length ≤ 1152921504606846976) : CFn Try.prog 35 [TAgg (En.cAttr a)] (Is (.bool (En.okT a))) := by
  have c1 := dnType
  have c2 := anyTxt (f := 58) (Cs := []) a.vals (fun v => decide (256 < (v.length : Int))) h.2 (fun a _ => enVal1 a)
  rw [En.okT_any]
  refine CallsC.of Try.call35 Try.func35 rfl Try.ntmps35 rfl fun w0 G0 S0 hs ho => ?_
  exact run trivial
theorem enIs1 (a : En.Attr) (h : a.typ.length ≤ 1152921504606846976 ∧ a.vals.length ≤ 1152921504606846976) : CFn Try.prog 34 [TAgg (En.cAttr a)] (Is (.bool (!En.okT a))) := by
  have c1 := enIsAttr a h
  refine CallsC.of Try.call34 Try.func34 rfl Try.ntmps34 rfl fun w0 G0 S0 hs ho => ?_
  exact run trivial
theorem enIs (e : En.Entry) (h : En.sane e) : CFn Try.prog 13 [TAgg (En.cEnt e)] (Is (.bool (En.isN e))) := by
  have c1 := dnIsF e.dn h.1 h.2.1
  have c2 := anyAttr (f := 34) (Cs := []) e.attrs (fun a => !En.okT a) h.2.2.1 (fun a ha => enIs1 a (h.2.2.2 a ha))
  rw [En.isN_any]
  refine CallsC.of Try.call13 Try.func13 rfl Try.ntmps13 rfl fun w0 G0 S0 hs ho => ?_
  exact run trivial
end Go.Proofs.Ytibabbepnhpaiaa
set_option maxRecDepth 8000
set_option linter.unusedVariables false
namespace Go.Proofs.Ytibabbepnhpaiaa
open Go.Vk
attribute [local irreducible] HT HX RegS RegA RegM OpP OpC AltT
/-- A Writer that holds l. -/
abbrev WX (g : Nat) (l : List UInt8) : Res := packR fun v : Value => [ownP g 60 [TAnd (Is v) (TBytes l)], ownSl v 1 5]
abbrev cN (n : Nat) : List Ty := [okI .i64 (n : Int)]
theorem wrNums (g : Nat) (l : List UInt8) (n : Nat) (hn : n ≤ 4611686018427387904) (hl : l.length ≤ 134217728) : CallsC Try.prog 27 [Is (pAt g 0), TSl 1 cN [n]] [WX g l] (fun _ => TTup []) (fun _ => [WX g (l ++ Oct.numB n)]) := by
  refine CallsC.of Try.call27 Try.func27 rfl Try.ntmps27 rfl fun w0 G0 S0 hs ho => ?_
  refine HT.unpack 0 rfl fun v => ?_
  refine run ?_
  intro _
  refine HT.loopX (σ := Nat × List UInt8) [0, 9, 10] (fun t => [(11, okI .i64 (t.1 : Int))]) (fun t => [WX g t.2]) (fun t => t.1 ≤ 1 ∧ t.2 = if t.1 = 0 then l else l ++ Oct.numB n) (fun t => 1 - t.1) (0, l) ⟨Nat.zero_le _, rfl⟩ (run trivial) (run trivial) ?_
  rintro ⟨i, q⟩ ⟨hi, hq0⟩
  have hb := Oct.numB_le hn
  have hlen : ([n] : List Nat).length = 1 := rfl
  dsimp only at hi hq0 ⊢
  rcases (by omega : i = 0 ∨ i = 1) with rfl | rfl
  · have hq1 : q = l := hq0
    subst hq1
    have h0 : ((([n].getD 0 0 : Nat) : Int)) = n := rfl
    refine run ?_
    intro _
    refine HT.loopX (σ := Nat × List UInt8) [0, 9, 10, 11] (fun t => [(6, okI .u64 (t.1 : Int))]) (fun t => [WX g t.2]) (fun t => t.2 ++ Oct.numB t.1 = q ++ Oct.numB n ∧ t.1 ≤ n) (fun t => t.1) (n, q) ⟨rfl, Nat.le_refl _⟩ (run trivial) (run ?_) ?_
    · rw [show ([n].getD 0 default : Nat) = n from rfl]
      repeat' split
      all_goals omega
    rintro ⟨u, m⟩ ⟨he, hu⟩
    dsimp only at he hu ⊢
    have hm : m.length ≤ q.length + 9 := by
      have := congrArg List.length he
      simp only [List.length_append] at this
      omega
    refine HT.unpack 0 rfl fun v => ?_
    refine run ?_
    refine ⟨fun v' h1 => ?_, fun v' h1 => ?_⟩
    · exact HX.roundX (u / 128, m ++ [b8 (u : Int) ||| b8 128]) ⟨⟨(Oct.numB_snoc (by omega) m).trans he, by dsimp only; omega⟩, by dsimp only; omega⟩ rfl (run trivial) (run trivial)
    · have e : m ++ [b8 (u : Int)] = q ++ Oct.numB n := by rw [← he, Oct.numB_lt (by omega)]
      rw [e]
      exact HX.roundX (1, q ++ Oct.numB n) ⟨⟨Nat.le_refl _, rfl⟩, Nat.zero_lt_one⟩ rfl (run trivial) (run trivial)
  · have hq1 : q = l ++ Oct.numB n := hq0
    subst hq1
    refine HT.unpack 0 rfl fun v => ?_
    exact run trivial
theorem wrRaw (g : Nat) (l m : List UInt8) (hl : l.length + m.length ≤ 134217728) : CallsC Try.prog 52 [Is (pAt g 0), TBytes m] [WX g l] (fun _ => TTup []) (fun _ => [WX g (l ++ m)]) := by
  refine CallsC.of Try.call52 Try.func52 rfl Try.ntmps52 rfl fun w0 G0 S0 hs ho => ?_
  refine HT.unpack 0 rfl fun v => ?_
  exact run trivial
theorem wrClone (m : List UInt8) (hl : m.length ≤ 134217728) : CFn Try.prog 47 [TBytes m] (TBytes m) := by
  refine CallsC.of Try.call47 Try.func47 rfl Try.ntmps47 rfl fun w0 G0 S0 hs ho => ?_
  refine run ?_
  exact ⟨Eq.symm, rfl⟩
theorem rfNum (n : Nat) (hn : n ≤ 4611686018427387904) : CallsC Try.prog 30 [okI .i64 (n : Int)] [] (fun v => TAnd (Is v) (TBytes (Oct.numB n))) (fun v => [ownSl v 1 5]) := by
  have hb := Oct.numB_le hn
  refine CallsC.of Try.call30 Try.func30 rfl Try.ntmps30 rfl fun w0 G0 S0 hs ho => ?_
  refine run ?_
  and_intros
  all_goals intros
  · refine HT.loopX (σ := Nat × List UInt8 × Value) [2] (fun t => [(3, okI .u64 (t.1 : Int)), (4, TAnd (Is t.2.2) (TBytes t.2.1))]) (fun t => [ownSl t.2.2 1 5]) (fun t => t.2.1 ++ Oct.numB t.1 = Oct.numB n ∧ t.1 ≤ n) (fun t => t.1) (n, [], .slice none 0 0) ⟨rfl, Nat.le_refl _⟩ (run trivial) (run trivial) ?_
    rintro ⟨u, m, v⟩ ⟨he, hu⟩
    dsimp only at he hu ⊢
    have hm : m.length ≤ 9 := by
      have := congrArg List.length he
      simp only [List.length_append] at this
      omega
    refine run ?_
    refine ⟨fun v' h1 => ?_, fun v' h1 => ?_⟩
    · exact HX.roundX (u / 128, m ++ [b8 ((u : Int) % 128) ||| b8 128], v') ⟨⟨(Oct.numB_snoc7 (by omega) m).trans he, by dsimp only; omega⟩, by dsimp only; omega⟩ rfl (run trivial) (run trivial)
    · rw [← he, Oct.numB_lt (by omega)]
  · have h0 : n = 0 := by omega
    subst h0
    refine HT.loopX (σ := Unit) [2] (fun t => [(3, okI .u64 0), (4, Is (.slice none 0 0))]) (fun t => []) (fun t => True) (fun t => 0) () trivial (run trivial) (run trivial) ?_
    intro _ _
    refine run ?_
    intro _ _
    rw [Oct.numB_lt (by decide)]
    rfl
theorem rfBytes (l : List UInt8) (hl : l.length ≤ 134217728) : CallsC Try.prog 31 [TBytes l] [] (fun v => TAnd (Is v) (TBytes (Oct.numB l.length ++ l))) (fun v => [ownSl v 1 5]) := by
  have c1 := rfNum
  have hb := Oct.numB_le (n := l.length) (by omega)
  refine CallsC.of Try.call31 Try.func31 rfl Try.ntmps31 rfl fun w0 G0 S0 hs ho => ?_
  exact run trivial
abbrev cTB (l : List UInt8) : List Ty := [TBytes l]
theorem subA {P : Program} {f : FuncId} {A B : List Ty} {L : List Res} {T : Value → Ty} {L' : Value → List Res} (h : CallsC P f B L T L') (s : TsSub A B) : CallsC P f A L T L' :=
  ⟨h.enter, fun vs w G S hs ho ha => h.calls vs w G S hs ho (ArgsT.sub s ha)⟩
theorem wrBytesL (g : Nat) (l : List UInt8) (ms : List (List UInt8)) (hl : l.length + (ms.flatMap Oct.bytB).length ≤ 134217000) (hm : ms.length ≤ 134217000) : CallsC Try.prog 28 [Is (pAt g 0), TSl 1 cTB ms] [WX g l] (fun _ => TTup []) (fun _ => [WX g (l ++ ms.flatMap Oct.bytB)]) := by
  have c1 := wrNums
  have c2 := wrRaw
  refine CallsC.of Try.call28 Try.func28 rfl Try.ntmps28 rfl fun w0 G0 S0 hs ho => ?_
  refine run ?_
  refine HT.loopX (σ := Nat × List UInt8) [0, 6, 7] (fun t => [(8, okI .i64 (t.1 : Int))]) (fun t => [WX g t.2]) (fun t => t.1 ≤ ms.length ∧ t.2 = l ++ (ms.take t.1).flatMap Oct.bytB) (fun t => ms.length - t.1) (0, l) ⟨Nat.zero_le _, by simp⟩ (run trivial) (run trivial) ?_
  rintro ⟨i, q⟩ ⟨hi, hq0⟩
  dsimp only at hi hq0 ⊢
  by_cases hlt : i < ms.length
  · have h1 := Oct.flat_snoc Oct.bytB hlt
    have h2 := Oct.flat_part (l := ms) Oct.bytB (i + 1)
    rw [h1, List.length_append] at h2
    have h3 : (Oct.bytB (ms.getD i default)).length = (Oct.numB (ms.getD i default).length).length + (ms.getD i default).length := by unfold Oct.bytB; rw [List.length_append]
    have h4 : q.length = l.length + ((ms.take i).flatMap Oct.bytB).length := by rw [hq0, List.length_append]
    refine run ?_
    rw [List.append_assoc]
    intro _
    exact HX.roundX (i + 1, q ++ (Oct.numB (ms.getD i default).length ++ ms.getD i default)) ⟨⟨by dsimp only; omega, by dsimp only; rw [h1, hq0, List.append_assoc]; rfl⟩, by dsimp only; omega⟩ rfl (run trivial) (run trivial)
  · have hq1 : q = l ++ ms.flatMap Oct.bytB := by rw [hq0, List.take_of_length_le (by omega)]
    subst hq1
    exact run trivial
theorem wrBytes1 (g : Nat) (l m : List UInt8) (hl : l.length + m.length ≤ 134000000) : CallsC Try.prog 28 [Is (pAt g 0), TSlX 1 (fun ts : List Ty => ts) [[TBytes m]]] [WX g l] (fun _ => TTup []) (fun _ => [WX g (l ++ Oct.bytB m)]) := by
  have h := Oct.numB_le (n := m.length) (by omega)
  have := wrBytesL g l [m] (by simp [Oct.bytB]; omega) (by simp)
  rw [show [m].flatMap Oct.bytB = Oct.bytB m by simp] at this
  exact subA this (by (repeat (first | exact TsSub.nil | apply TsSub.cons (by first | with_reducible exact Sub.refl _ | exact Sub.slxT rfl | exact Sub.slT rfl | exact Sub.slx rfl | exact Sub.nil _ _ | exact Sub.refl _) | fail)); done)
theorem wrBytes2 (g : Nat) (l m n : List UInt8) (hl : l.length + m.length + n.length ≤ 134000000) : CallsC Try.prog 28 [Is (pAt g 0), TSlX 1 (fun ts : List Ty => ts) [[TBytes m], [TBytes n]]] [WX g l] (fun _ => TTup []) (fun _ => [WX g (l ++ (Oct.bytB m ++ Oct.bytB n))]) := by
  have h := Oct.numB_le (n := m.length) (by omega)
  have h' := Oct.numB_le (n := n.length) (by omega)
  have := wrBytesL g l [m, n] (by simp [Oct.bytB]; omega) (by simp)
  rw [show [m, n].flatMap Oct.bytB = Oct.bytB m ++ Oct.bytB n by simp] at this
  exact subA this (by (repeat (first | exact TsSub.nil | apply TsSub.cons (by first | with_reducible exact Sub.refl _ | exact Sub.slxT rfl | exact Sub.slT rfl | exact Sub.slx rfl | exact Sub.nil _ _ | exact Sub.refl _) | fail)); done)
theorem rfBytB (l : List UInt8) (hl : l.length ≤ 134217728) : CallsC Try.prog 31 [TBytes l] [] (fun v => TAnd (Is v) (TBytes (Oct.bytB l))) (fun v => [ownSl v 1 5]) := rfBytes l hl
theorem wrOut (g : Nat) (l : List UInt8) (hl : l.length ≤ 134217728) : CallsC Try.prog 29 [Is (pAt g 0)] [WX g l] (fun _ => TBytes l) (fun _ => [empR]) := by
  have c1 := wrClone
  refine CallsC.of Try.call29 Try.func29 rfl Try.ntmps29 rfl fun w0 G0 S0 hs ho => ?_
  refine HT.unpack 0 rfl fun v => ?_
  exact run trivial
end Go.Proofs.Ytibabbepnhpaiaa
set_option maxRecDepth 8000
set_option linter.unusedVariables false
namespace Go.Proofs.Ytibabbepnhpaiaa
open Go.Vk
attribute [local irreducible] HT HX RegS RegA RegM OpP OpC AltT
attribute [local irreducible] Dn.typB Dn.isE Dn.okA En.okT En.isN
theorem rf20Is (e : En.Entry) (h : En.sane e) : CFn Try.prog 14 [TAgg (En.cEnt e)] (Is (.bool (En.isN e))) := by
  have c1 := rfIs e.dn h.1 h.2.1
  have c2 := rfType
  have hb := h.2.2.1
  refine CallsC.of Try.call14 Try.func14 rfl Try.ntmps14 rfl fun w0 G0 S0 hs ho => ?_
  refine run ?_
  refine ⟨fun h1 => ?_, fun h1 => ?_⟩
  · exact (En.isN_no1 h1).symm
  refine HT.loopX (σ := Nat) [1] (fun i => [(3, okI .i64 (i : Int))]) (fun _ => []) (fun i => i ≤ e.attrs.length ∧ (e.attrs.take i).all En.okT = true) (fun i => e.attrs.length - i) 0 ⟨Nat.zero_le _, by simp⟩ (run trivial) (run trivial) ?_
  rintro i ⟨hi, hp⟩
  by_cases hlt : i < e.attrs.length
  · have h2 := h.2.2.2 _ (En.getD_mem hlt)
    refine run ?_
    refine ⟨fun v1 _ h3 => (En.isN_no2 hlt (En.okT_no1 h3)).symm, fun v1 _ h3 => ?_⟩
    refine HT.loopX (σ := Nat) [1, 3, 4] (fun k => [(5, okI .i64 (k : Int))]) (fun k => [ownP (blk v1) 46 (En.cAttr (e.attrs.getD i default))]) (fun k => k ≤ (e.attrs.getD i default).vals.length ∧ ((e.attrs.getD i default).vals.take k).all En.okV = true) (fun k => (e.attrs.getD i default).vals.length - k) 0 ⟨Nat.zero_le _, by simp⟩ (run trivial) (run trivial) ?_
    rintro k ⟨hk, hq1⟩
    by_cases hkt : k < (e.attrs.getD i default).vals.length
    · refine run ?_
      refine ⟨fun _ h4 => (En.isN_no2 hlt (En.okT_no2 hkt h4)).symm, fun _ h4 => ?_⟩
      exact HX.roundX (k + 1) ⟨⟨by omega, En.all_snoc hkt hq1 (En.okV_yes h4)⟩, by omega⟩ rfl (run trivial) (run trivial)
    · refine run ?_
      intro _
      rw [List.take_of_length_le (by omega)] at hq1
      exact HX.roundX (i + 1) ⟨⟨by omega, En.all_snoc hlt hp (En.okT_yes h3 hq1)⟩, by omega⟩ rfl (run trivial) (run trivial)
  · refine run ?_
    intro _
    rw [List.take_of_length_le (by omega)] at hp
    exact (En.isN_yes h1.1 h1.2 hp).symm
attribute [local irreducible] Oct.bytB En.avaB En.attrB
set_option maxHeartbeats 4000000 in
theorem enEncode (e : En.Entry) (h : En.sane e) : CFn Try.prog 11 [TAgg (En.cEnt e)] (TTup [Is (str (if En.isN e = true then En.encB e else [])), okI .i64 (if En.isN e = true then 0 else 1)]) := by
  have c0 := enIs e h
  have c1 := wrNums
  have c2 := wrBytes2
  have c3 := wrOut
  by_cases hN : En.isN e = true
  · rw [if_pos hN, if_pos hN]
    rw [hN] at c0
    obtain ⟨b1, b2, b3, b4⟩ := En.isN_bd hN
    have k1 := Oct.numB_le (n := e.dn.length) (by omega)
    have k2 := Oct.numB_le (n := e.attrs.length) (by omega)
    have k3 := En.flat_take (f := En.avaB) (k := 200) (fun a ha => En.avaB_len (b2 a ha)) b1
    have k4 := En.flat_take (f := En.attrB) (k := 5000) (fun a ha => En.attrB_len (b4 a ha)) b3
    refine CallsC.of Try.call11 Try.func11 rfl Try.ntmps11 rfl fun w0 G0 S0 hs ho => ?_
    refine run ?_
    intro v0 _
    refine HT.loopX (σ := Nat × List UInt8) [1, 2, 3, 4, 20, 21] (fun t => [(22, okI .i64 (t.1 : Int))]) (fun t => [WX (blk v0) t.2]) (fun t => t.1 ≤ e.dn.length ∧ t.2 = Oct.numB e.dn.length ++ (e.dn.take t.1).flatMap En.avaB) (fun t => e.dn.length - t.1) (0, Oct.numB e.dn.length) ⟨Nat.zero_le _, by simp⟩ (run trivial) (run trivial) ?_
    rintro ⟨i, q⟩ ⟨hi, hq1⟩
    dsimp only at hi hq1 ⊢
    have k3i := k3 i
    have hql : q.length ≤ 3000 := by rw [hq1, List.length_append]; omega
    by_cases hlt : i < e.dn.length
    · have h2 := b2 _ (En.getD_mem hlt)
      have h3 := En.ava_snoc hlt
      refine run ?_
      intro v1 _
      exact HX.roundX (i + 1, q ++ (Oct.bytB (e.dn.getD i default).typ ++ Oct.bytB (e.dn.getD i default).val)) ⟨⟨by dsimp only; omega, by dsimp only; rw [h3, hq1, List.append_assoc]⟩, by dsimp only; omega⟩ rfl (run trivial) (run trivial)
    · clear c2
      have c2 := wrBytes1
      rw [List.take_of_length_le (by omega)] at hq1
      refine run ?_
      intro _
      refine HT.loopX (σ := Nat × List UInt8) [2, 3, 4, 41, 42] (fun t => [(43, okI .i64 (t.1 : Int))]) (fun t => [WX (blk v0) t.2]) (fun t => t.1 ≤ e.attrs.length ∧ t.2 = q ++ Oct.numB e.attrs.length ++ (e.attrs.take t.1).flatMap En.attrB) (fun t => e.attrs.length - t.1) (0, q ++ Oct.numB e.attrs.length) ⟨Nat.zero_le _, by simp⟩ (run trivial) (run trivial) ?_
      rintro ⟨j, r⟩ ⟨hj, hr1⟩
      dsimp only at hj hr1 ⊢
      have k4j := k4 j
      have hrl : r.length ≤ 90000 := by rw [hr1, List.length_append, List.length_append]; omega
      by_cases hjt : j < e.attrs.length
      · obtain ⟨h2, h4, h5⟩ := b4 _ (En.getD_mem hjt)
        have h3 := En.attr_snoc hjt
        have k5 := Oct.numB_le (n := (e.attrs.getD j default).vals.length) (by omega)
        have k6 := En.bytB_len (k := 32) h2 (by omega)
        have k7 := En.flat_take (f := Oct.bytB) (k := 265) (fun v hv => En.bytB_len (k := 256) (h5 v hv) (by omega)) h4
        refine run ?_
        intro v1 _
        refine HT.loopX (σ := Nat × List UInt8) [2, 3, 4, 41, 42, 43, 58, 59] (fun t => [(60, okI .i64 (t.1 : Int))]) (fun t => [WX (blk v0) t.2]) (fun t => t.1 ≤ (e.attrs.getD j default).vals.length ∧ t.2 = r ++ (Oct.bytB (e.attrs.getD j default).typ ++ Oct.numB (e.attrs.getD j default).vals.length ++ ((e.attrs.getD j default).vals.take t.1).flatMap Oct.bytB)) (fun t => (e.attrs.getD j default).vals.length - t.1) (0, r ++ Oct.bytB (e.attrs.getD j default).typ ++ Oct.numB (e.attrs.getD j default).vals.length) ⟨Nat.zero_le _, by simp⟩ (run trivial) (run trivial) ?_
        rintro ⟨k, z⟩ ⟨hk, hz1⟩
        dsimp only at hk hz1 ⊢
        have k7k := k7 k
        have hzl : z.length ≤ 100000 := by rw [hz1, List.length_append, List.length_append, List.length_append]; omega
        by_cases hkt : k < (e.attrs.getD j default).vals.length
        · have h6 := h5 _ (En.getD_mem hkt)
          have h7 := En.flat_snoc Oct.bytB hkt
          refine run ?_
          intro _
          exact HX.roundX (k + 1, z ++ Oct.bytB ((e.attrs.getD j default).vals.getD k default)) ⟨⟨by dsimp only; omega, by dsimp only; rw [h7, hz1]; simp only [List.append_assoc]⟩, by dsimp only; omega⟩ rfl (run trivial) (run trivial)
        · rw [List.take_of_length_le (by omega)] at hz1
          refine run ?_
          intro _
          exact HX.roundX (j + 1, z) ⟨⟨by dsimp only; omega, by dsimp only; rw [h3, hz1, hr1, List.append_assoc]⟩, by dsimp only; omega⟩ rfl (run trivial) (run trivial)
      · rw [List.take_of_length_le (by omega)] at hr1
        have hr2 : r = En.encB e := by rw [hr1, hq1]; rfl
        rw [← hr2]
        exact run trivial
  · have hN' : En.isN e = false := by simpa using hN
    rw [if_neg hN, if_neg hN]
    clear c1 c2 c3
    rw [hN'] at c0
    refine CallsC.of Try.call11 Try.func11 rfl Try.ntmps11 rfl fun w0 G0 S0 hs ho => ?_
    exact run trivial
end Go.Proofs.Ytibabbepnhpaiaa
