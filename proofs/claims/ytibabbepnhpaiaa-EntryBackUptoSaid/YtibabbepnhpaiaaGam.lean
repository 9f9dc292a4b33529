/-
  The contracts of Own: an entry in memory of its own; and of great.
  Arguments as data, of types that hold themselves: the form's reading, so deep. Nothing here speaks of a program; no conditions.
  Arguments as data, with how heavy they are: for the statements of bounded bulk. Nothing here speaks of a function; no conditions.
  The contract of the law EntryEncodes; entries as arguments, with their bulk.
-/
import Derived.Test.YtibabbepnhpaiaaGal
import Derived.Test.YtibabbepnhpaiaaGak
import Derived.Test.YtibabbepnhpaiaaRows
import Derived.Deep.CondSized
import Derived.JoinedCond
set_option linter.unusedSimpArgs false
set_option linter.unusedVariables false
set_option linter.unusedVariables false
namespace Go.En
open Go.Vk
instance : Inhabited Entry := ⟨⟨[], []⟩⟩
/-- The sum of a measure. -/
def sm {α : Type} (f : α → Nat) (l : List α) : Nat := (l.map f).sum
theorem sm_snoc {α : Type} [Inhabited α] {f : α → Nat} {l : List α} {i : Nat} (h : i < l.length) : sm f (l.take (i + 1)) = sm f (l.take i) + f (l.getD i default) := by
  unfold sm
  rw [List.take_add_one, List.map_append, List.sum_append, List.getElem?_eq_getElem h, List.getD_eq_getElem?_getD, List.getElem?_eq_getElem h]
  simp
theorem sm_take {α : Type} (f : α → Nat) (l : List α) (i : Nat) : sm f (l.take i) ≤ sm f l := by
  have : sm f l = sm f (l.take i) + sm f (l.drop i) := by
    unfold sm; rw [← List.sum_append, ← List.map_append, List.take_append_drop]
  omega
theorem sm_get {α : Type} [Inhabited α] {f : α → Nat} {l : List α} {i : Nat} (h : i < l.length) : f (l.getD i default) ≤ sm f l := by
  have h1 := sm_snoc (f := f) h
  have h2 := sm_take f l (i + 1)
  omega
theorem sm_mem {α : Type} {f : α → Nat} : ∀ {l : List α} {a : α}, a ∈ l → f a ≤ sm f l
  | [], a, h => by simp at h
  | b :: r, a, h => by
    unfold sm
    rw [List.map_cons, List.sum_cons]
    rcases List.mem_cons.1 h with rfl | h
    · omega
    · have := sm_mem (f := f) h; unfold sm at this; omega
theorem sm_len {α : Type} {f : α → Nat} (h : ∀ a, 1 ≤ f a) : ∀ l : List α, l.length ≤ sm f l
  | [] => by simp [sm]
  | b :: r => by
    have := sm_len h r
    have := h b
    unfold sm at *
    rw [List.map_cons, List.sum_cons, List.length_cons]; omega
def wV (v : List UInt8) : Nat := 1 + v.length
def wAva (a : Dn.Ava) : Nat := 1 + a.typ.length + a.val.length
def wAt (a : Attr) : Nat := 1 + a.typ.length + sm wV a.vals
def wE (e : Entry) : Nat := sm wAva e.dn + sm wAt e.attrs
theorem wE_def (e : Entry) : wE e = sm wAva e.dn + sm wAt e.attrs := rfl
theorem wAva_def (a : Dn.Ava) : wAva a = 1 + a.typ.length + a.val.length := rfl
theorem wAt_def (a : Attr) : wAt a = 1 + a.typ.length + sm wV a.vals := rfl
theorem wV_def (v : List UInt8) : wV v = 1 + v.length := rfl
end Go.En
set_option maxRecDepth 8000
set_option linter.unusedVariables false
namespace Go.Proofs.Ytibabbepnhpaiaa
open Go.Vk
attribute [local irreducible] HT HX RegS RegA RegM OpP OpC AltT
attribute [local irreducible] En.wV En.wAva En.wAt En.wE
theorem attrCloneO (l : List En.Attr) (h0 : 0 < l.length) (hl : l.length ≤ 134217728) : CallsC Try.prog 45 [TSl 2 En.cAttr l] [] (fun v => Is (slAt (sblk v) l.length (scap v))) (fun v => [ownA (sblk v) (scap v) 46 2 En.cAttr l]) := by
  have mu := Mut.mk' [7]
  refine CallsC.of Try.call45 Try.func45 rfl Try.ntmps45 rfl fun w0 G0 S0 hs ho => ?_
  refine run ?_
  refine ⟨fun h => by rw [h] at h0; simp at h0, fun v0 => ?_⟩
  refine HX.finP (u := slAt (sblk v0) l.length (scap v0)) [[0]] (.inl rfl) (by apply ResR.tmp rfl; exact ResR.nil) rfl ?_ ?_
  · rw [sblk_at, scap_at]; exact run trivial
  · rw [sblk_at, scap_at]; exact Sub.refl _
set_option maxHeartbeats 4000000 in
theorem lwGreat20 (l : List En.Entry) (hl : En.sm En.wE l ≤ 100000000) (hn : l.length ≤ 1000) (hsn : ∀ e ∈ l, e.dn.length ≤ 100000000 ∧ e.attrs.length ≤ 100000000 ∧ (∀ a ∈ e.attrs, a.vals.length ≤ 100000000)) : CFn Try.prog 10 [TSl 2 En.cEnt l] (Is (.bool (decide (4000 < (En.sm En.wE l : Int))))) := by
  refine CallsC.of Try.call10 Try.func10 rfl Try.ntmps10 rfl fun w0 G0 S0 hs ho => ?_
  refine run ?_
  refine HT.loopX (σ := Nat) [0] (fun j => [(3, okI .i64 (En.sm En.wE (l.take j) : Int)), (4, okI .i64 (j : Int)), (2, Is (.bool false))]) (fun _ => []) (fun j => j ≤ l.length) (fun j => l.length - j) 0 (Nat.zero_le _) (run trivial) (by refine run ?_; rfl) ?_
  intro j hj
  by_cases hlt : j < l.length
  · have hg := En.sm_get (f := En.wE) hlt
    have hz := En.sm_snoc (f := En.wE) hlt
    have ht := En.sm_take En.wE l (j + 1)
    obtain ⟨b1, b2, b3⟩ := hsn _ (En.getD_mem hlt)
    have hw := En.wE_def (l.getD j default)
    refine run ?_
    intro v0 _
    refine HT.loopX (σ := Nat) [0, 2, 4, 5] (fun i => [(3, okI .i64 ((En.sm En.wE (l.take j) + En.sm En.wAva ((l.getD j default).dn.take i) : Nat) : Int)), (6, okI .i64 (i : Int))]) (fun _ => [ownP (blk v0) 25 (En.cEnt (l.getD j default))]) (fun i => i ≤ (l.getD j default).dn.length) (fun i => (l.getD j default).dn.length - i) 0 (Nat.zero_le _) (run trivial) (by refine run ?_; rfl) ?_
    intro i hi
    by_cases hli : i < (l.getD j default).dn.length
    · have g1 := En.sm_snoc (f := En.wAva) hli
      have g2 := En.sm_take En.wAva (l.getD j default).dn (i + 1)
      have g3 := En.wAva_def ((l.getD j default).dn.getD i default)
      refine run ?_
      intro _
      exact HX.roundX (i + 1) ⟨by omega, by omega⟩ rfl (run trivial) (run trivial)
    · have ea : (l.getD j default).dn.take i = (l.getD j default).dn := List.take_of_length_le (by omega)
      rw [ea]
      clear ea
      refine run ?_
      intro hq9
      clear hq9 hli hi
      refine HT.loopX (σ := Nat) [0, 4, 5] (fun i => [(2, Is (.bool false)), (3, okI .i64 ((En.sm En.wE (l.take j) + En.sm En.wAva (l.getD j default).dn + En.sm En.wAt ((l.getD j default).attrs.take i) : Nat) : Int)), (7, okI .i64 (i : Int))]) (fun _ => [ownP (blk v0) 25 (En.cEnt (l.getD j default))]) (fun i => i ≤ (l.getD j default).attrs.length) (fun i => (l.getD j default).attrs.length - i) 0 (Nat.zero_le _) (run trivial) (by refine run ?_; rfl) ?_
      intro i hi
      by_cases hli : i < (l.getD j default).attrs.length
      · have g1 := En.sm_snoc (f := En.wAt) hli
        have g2 := En.sm_take En.wAt (l.getD j default).attrs (i + 1)
        have g3 := En.wAt_def ((l.getD j default).attrs.getD i default)
        have b4 := b3 _ (En.getD_mem hli)
        refine run ?_
        intro _
        refine HT.loopX (σ := Nat) [0, 2, 4, 5, 7] (fun k => [(3, okI .i64 ((En.sm En.wE (l.take j) + En.sm En.wAva (l.getD j default).dn + En.sm En.wAt ((l.getD j default).attrs.take i) + 1 + ((l.getD j default).attrs.getD i default).typ.length + En.sm En.wV (((l.getD j default).attrs.getD i default).vals.take k) : Nat) : Int)), (8, okI .i64 (k : Int))]) (fun _ => [ownP (blk v0) 25 (En.cEnt (l.getD j default))]) (fun k => k ≤ ((l.getD j default).attrs.getD i default).vals.length) (fun k => ((l.getD j default).attrs.getD i default).vals.length - k) 0 (Nat.zero_le _) (run trivial) (by refine run ?_; rw [show En.sm En.wV (List.take 0 ((l.getD j default).attrs.getD i default).vals) = 0 from rfl]; omega) ?_
        intro k hk
        by_cases hlk : k < ((l.getD j default).attrs.getD i default).vals.length
        · have f1 := En.sm_snoc (f := En.wV) hlk
          have f2 := En.sm_take En.wV ((l.getD j default).attrs.getD i default).vals (k + 1)
          have f3 := En.wV_def (((l.getD j default).attrs.getD i default).vals.getD k default)
          refine run ?_
          intro _
          exact HX.roundX (k + 1) ⟨by omega, by omega⟩ rfl (run trivial) (run trivial)
        · have ea : ((l.getD j default).attrs.getD i default).vals.take k = ((l.getD j default).attrs.getD i default).vals := List.take_of_length_le (by omega)
          rw [ea]
          refine run ?_
          intro _ _
          exact HX.roundX (i + 1) ⟨by omega, by omega⟩ rfl (run trivial) (run trivial)
      · have ea : (l.getD j default).attrs.take i = (l.getD j default).attrs := List.take_of_length_le (by omega)
        rw [ea]
        refine run ?_
        intro _
        exact HX.roundX (j + 1) ⟨by omega, by omega⟩ rfl (run trivial) (run trivial)
  · rw [List.take_of_length_le (by omega)]
    exact run trivial
set_option maxHeartbeats 1000000 in
theorem enOwn0 (d : List Dn.Ava) (l : List En.Attr) (h0 : l.length = 0) (h1 : d.length ≤ 100000000) : CFn Try.prog 19 [TAgg (En.cEnt ⟨d, l⟩)] (TAgg (En.cEnt ⟨d, l⟩)) := by
  have c1 := avaClone d (by omega)
  have c2 := attrClone l (by omega)
  have pl := Plan.mk' 1 [(0,3,[]),(1,3,[]),(2,3,[]),(3,3,[]),(4,3,[]),(5,3,[]),(6,3,[]),(7,0,[0]),(8,0,[0])]
  refine CallsC.of Try.call19 Try.func19 rfl Try.ntmps19 rfl fun w0 G0 S0 hs ho => ?_
  refine run ?_
  intro v0 v1
  refine HT.loopX (σ := Unit) [2, 3, 14, 15] (fun _ => [(16, okI .i64 0)]) (fun _ => [ownP (blk v0) 25 [Is (.slice none 0 0), Is (.slice none 0 0)], ownP (blk v1) 25 [TSl 2 Dn.cAva d, TSl 2 En.cAttr l]]) (fun _ => True) (fun _ => 0) () trivial (run trivial) (run trivial) ?_
  intro _ _
  exact run trivial
theorem set_same {l : List En.Attr} {i : Nat} (h : i < l.length) : l.set i { l.getD i default with vals := (l.getD i default).vals } = l := by
  have : { l.getD i default with vals := (l.getD i default).vals } = l[i] := by
    rw [List.getD_eq_getElem?_getD, List.getElem?_eq_getElem h]; rfl
  rw [this]; simp
set_option maxHeartbeats 4000000 in
theorem enOwn1 (e : En.Entry) (h0 : 0 < e.attrs.length) (h1 : e.dn.length ≤ 100000000) (h2 : e.attrs.length ≤ 100000000) (h3 : ∀ a ∈ e.attrs, a.vals.length ≤ 100000000) : CFn Try.prog 19 [TAgg (En.cEnt e)] (TAgg (En.cEnt e)) := by
  obtain ⟨d, l⟩ := e
  dsimp only at h0 h1 h2 h3
  have c1 := avaClone d (by omega)
  have c2 := attrCloneO l h0 (by omega)
  have st := Stop.mk' 1
  refine CallsC.of Try.call19 Try.func19 rfl Try.ntmps19 rfl fun w0 G0 S0 hs ho => ?_
  refine run ?_
  intro v0
  refine HT.regionT (σ := Nat × Value) [(0,3,[]),(1,3,[]),(2,3,[]),(3,3,[]),(4,3,[])] (.br (5,0,[]) (.br (6,3,[]) (seqT [(7,0,[]),(8,0,[])]) (.br (7,0,[]) (seqT [(6,3,[]),(8,0,[])]) .leaf)) (.br (7,0,[]) (seqT [(5,0,[]),(6,3,[]),(8,0,[])]) .leaf)) [2] (fun t => [(3, Is (pAt t.1 0))]) (fun t => [ownP (blk v0) 25 [Is (.slice none 0 0), Is (.slice none 0 0)], ownP t.1 25 [TSl 2 Dn.cAva d, Is (slAt (sblk t.2) l.length (scap t.2))], ownA (sblk t.2) (scap t.2) 46 2 En.cAttr l]) rfl rfl rfl (by decide +kernel) (run ?_) ?_
  · exact ⟨fun v1 v2 => Met.at (blk v2, v1) rfl (run trivial) (run trivial), fun v1 v2 => Met.at (blk v2, v1) rfl (run trivial) (run trivial), fun v1 v2 => Met.at (blk v1, v2) rfl (run trivial) (run trivial)⟩
  clear st c1 c2
  rintro ⟨g3, w⟩
  have hset : SetF En.cAttr 1 (fun vs : List (List UInt8) => TSl 1 En.cS vs) (fun a vs => { a with vals := vs }) := ⟨fun _ _ => rfl⟩
  have pl := Plan.mk' 5 [(0,3,[]),(1,2,[1]),(2,3,[]),(3,3,[]),(4,2,[3]),(5,3,[]),(6,3,[]),(7,3,[]),(8,0,[0,1,3])]
  refine run ?_
  refine HT.loopX (σ := Nat) [2, 3, 14, 15] (fun i => [(16, okI .i64 (i : Int))]) (fun _ => [ownP (blk v0) 25 [Is (.slice none 0 0), Is (.slice none 0 0)], ownP g3 25 [TSl 2 Dn.cAva d, Is (slAt (sblk w) l.length (scap w))], ownA (sblk w) (scap w) 46 2 En.cAttr l]) (fun i => i ≤ l.length) (fun i => l.length - i) 0 (Nat.zero_le _) (run trivial) (run trivial) ?_
  intro i hi
  by_cases hlt : i < l.length
  · have c3 := txtClone (l.getD i default).vals (by have := h3 _ (En.getD_mem hlt); omega)
    have hse : l.set i ⟨(l.getD i default).typ, (l.getD i default).vals⟩ = l := set_same hlt
    refine run ?_
    intro _ _
    rw [hse]
    exact HX.roundX (i + 1) ⟨by omega, by omega⟩ rfl (run trivial) (run trivial)
  · refine HT.giveP (j := 1) 2 1 rfl rfl rfl rfl rfl ?_
    exact run trivial
theorem enOwn (e : En.Entry) (h1 : e.dn.length ≤ 100000000) (h2 : e.attrs.length ≤ 100000000) (h3 : ∀ a ∈ e.attrs, a.vals.length ≤ 100000000) : CFn Try.prog 19 [TAgg (En.cEnt e)] (TAgg (En.cEnt e)) := by
  by_cases h0 : 0 < e.attrs.length
  · exact enOwn1 e h0 h1 h2 h3
  · exact enOwn0 e.dn e.attrs (by omega) h1
end Go.Proofs.Ytibabbepnhpaiaa
set_option linter.unusedVariables false
namespace Go.Vk
/-- Opn, of readings no deeper than N. -/
structure OpnN (N : Nat) (P : Program) (t : TypeId) {α : Type} (f : α → List Ty) (ok : α → Prop) : Prop where
  size : ∀ a, (f a).length = P.cellsOf t
  go : ∀ {H : Type} (enc : TypeId × Value → H) (W : World) (fuel : Nat) (cs : List Value) (x : DataW H × List MemPlace), fuel ≤ N → DataW.trod enc P W 0 (fun _ => true) true fuel t cs = some x → (∀ n ∈ x.1.weights P t, n ≤ reachBytes) →
    ∃ a, ok a ∧ cs.length = (f a).length ∧ ∀ (j : Nat) (T : Ty) (u : Value), (f a)[j]? = some T → cs[j]? = some u → T.p (heapImm W) u ∧ u.oneCell' = true
section
variable {P : Program} {t : TypeId} {N : Nat}
theorem Opn.toN {α : Type} {f : α → List Ty} {ok : α → Prop} (h : Opn P t f ok) : OpnN N P t f ok := ⟨h.size, fun enc W fuel cs x _ hx hw => h.go enc W fuel cs x hx hw⟩
theorem OpnN.all {α : Type} {f : α → List Ty} {ok : α → Prop} (h : ∀ N, OpnN N P t f ok) : Opn P t f ok := ⟨(h 0).size, fun enc W fuel cs x hx hw => (h fuel).go enc W fuel cs x (Nat.le_refl _) hx hw⟩
theorem OpnN.map {α β : Type} {f : α → List Ty} {ok : α → Prop} (h : OpnN N P t f ok) (g : α → β) {f' : β → List Ty} {ok' : β → Prop} (hs : ∀ b, (f' b).length = P.cellsOf t) (hf : ∀ a, f' (g a) = f a) (hok : ∀ a, ok a → ok' (g a)) : OpnN N P t f' ok' where
  size := hs
  go := by
    intro H enc W fuel cs x hN hx hw
    obtain ⟨a, h1, h2, h3⟩ := h.go enc W fuel cs x hN hx hw
    refine ⟨g a, hok a h1, by rw [hf]; exact h2, by rw [hf]; exact h3⟩
theorem OpnN.slice {e : TypeId} {α : Type} {f : α → List Ty} {ok : α → Prop} (h : OpnN N P e f ok) (ht : P.underlying t = some (.slice e)) (hs : P.cellsOf t = 1) (hz : Nat.blt 0 (P.cellsOf e) = true) : OpnN (N + 1) P t (cL (P.cellsOf e) f) (fun l => l.length * P.bytesOf e ≤ reachBytes ∧ ∀ a ∈ l, ok a) where
  size := fun _ => hs.symm
  go := by
    intro H enc W fuel cs x hN hx hw
    have hz : 0 < P.cellsOf e := Nat.le_of_ble_eq_true hz
    rcases DataW.trod_slice ht hx with ⟨rfl, rfl⟩ | ⟨a, len, cap, elems, rest, n, rfl, rfl, rfl, _, hlc, hcm, hel, hget, _, _⟩
    · exact ⟨[], ⟨by simp, by simp⟩, rfl, one_at (TSlX.sl (nil_sl _ f _)) rfl⟩
    · have key : ∀ i : Fin len, ∃ y : α, ok y ∧ ∃ cs', W.cells? 0 (a.add (i.val * P.cellsOf e)) (P.cellsOf e) = some cs' ∧ ∀ (j : Nat) (T : Ty) (u : Value), (f y)[j]? = some T → cs'[j]? = some u → T.p (heapImm W) u ∧ u.oneCell' = true := by
        intro i
        have hi := hget i.val i.isLt
        have hlt : i.val < elems.length := by rw [hel]; exact i.isLt
        rw [List.getElem?_eq_getElem hlt, Option.bind_eq_some_iff] at hi
        obtain ⟨cs', h1, h2⟩ := hi
        obtain ⟨y, g1, g2, g3⟩ := h.go enc W n cs' _ (by omega) h2 (fun m hm => hw m (by
          simp only [DataW.weights, ht]
          refine List.mem_cons_of_mem _ (List.mem_append_left _ ?_)
          exact weightsAll_mem (List.mem_map.2 ⟨_, List.getElem_mem hlt, rfl⟩) m hm))
        exact ⟨y, g1, cs', h1, g3⟩
      let l : List α := List.ofFn fun i : Fin len => (key i).choose
      have hll : l.length = len := by simp [l]
      have hl : ∀ (i : Nat) (y : α), l[i]? = some y → ∃ hi : i < len, y = (key ⟨i, hi⟩).choose := by
        intro i y hy
        have hi : i < len := by have := (List.getElem?_eq_some_iff.1 hy).1; omega
        refine ⟨hi, ?_⟩
        simp only [l, List.getElem?_ofFn, hi, dite_true, Option.some.injEq] at hy
        exact hy.symm
      refine ⟨l, ⟨?_, ?_⟩, rfl, one_at ?_ rfl⟩
      · have := hw ((elems.length + rest.length) * P.bytesOf e) (by simp only [DataW.weights, ht, List.length_map]; exact List.mem_cons_self)
        have h2 : l.length * P.bytesOf e ≤ (elems.length + rest.length) * P.bytesOf e := Nat.mul_le_mul_right _ (by omega)
        omega
      · intro y hy
        obtain ⟨i, hi⟩ := List.mem_iff_getElem?.1 hy
        obtain ⟨hlt, rfl⟩ := hl i y hi
        exact (key ⟨i, hlt⟩).choose_spec.1
      · refine ⟨some a, cap, by rw [hll], by omega, hcm, (fun e => by cases e), (fun e => by cases e), fun ad e => ?_⟩
        cases e
        have hspot : 0 < len → a.spot = none := by
          intro hp
          obtain ⟨_, cs', h1, _⟩ := (key ⟨0, hp⟩).choose_spec
          have h2 := (World.cells?_some h1).2.2 0 hz
          have h3 : ∃ u, W.cell? ((a.add (0 * P.cellsOf e)).add 0) = some u := by
            have h4 := (World.cells?_some h1).2.1
            exact ⟨_, h2.trans (List.getElem?_eq_getElem (by omega))⟩
          obtain ⟨u, hu⟩ := h3
          have := World.cell?_spot hu
          simpa [Addr.add] using this
        refine ⟨fun hp => hspot (by omega), fun i y hy => ⟨h.size y, ?_⟩⟩
        obtain ⟨hlt, rfl⟩ := hl i y hy
        obtain ⟨_, cs', h1, h3⟩ := (key ⟨i, hlt⟩).choose_spec
        have hsp := hspot (by omega)
        intro j T hT
        have hj : j < P.cellsOf e := by have := (List.getElem?_eq_some_iff.1 hT).1; rw [h.size] at this; exact this
        have h5 := World.cells?_some h1
        have hcj : cs'[j]? = some cs'[j] := List.getElem?_eq_getElem (by omega)
        refine ⟨cs'[j], ?_, h3 j T _ hT hcj⟩
        have h6 := h5.2.2 j hj
        rw [hcj] at h6
        show W.cell? _ = _
        rw [← h6]
        obtain ⟨b, o, sp⟩ := a
        have hsp : sp = none := hsp
        subst hsp
        rw [add_none, add_none]
/-! ### structs -/
inductive OpnFN (N : Nat) (P : Program) : List Field → Nat → Nat → (α : Type) → (α → List Ty) → (α → Prop) → Prop
  | nil (off : Nat) : OpnFN N P [] off off Unit (fun _ => []) (fun _ => True)
  | cons {fd : Field} {fs : List Field} {off last : Nat} {A B : Type} {fa : A → List Ty} {oka : A → Prop} {fb : B → List Ty} {okb : B → Prop} (ho : fd.offset = off) (h : OpnN N P fd.type fa oka) (r : OpnFN N P fs (off + P.cellsOf fd.type) last B fb okb) : OpnFN N P (fd :: fs) off last (A × B) (fun p => fa p.1 ++ fb p.2) (fun p => oka p.1 ∧ okb p.2)
theorem OpnFN.size {fs : List Field} {off last : Nat} {α : Type} {f : α → List Ty} {ok : α → Prop} (h : OpnFN N P fs off last α f ok) : ∀ a, off + (f a).length = last := by
  induction h with
  | nil off => intro a; simp
  | cons ho h r ih =>
    rintro ⟨a, b⟩
    have h1 := h.size a
    have h2 := ih b
    simp only [List.length_append]; omega
theorem OpnFN.go {H : Type} {enc : TypeId × Value → H} {W : World} {fuel : Nat} {cs : List Value} {fs : List Field} {off last : Nat} {α : Type} {f : α → List Ty} {ok : α → Prop} (h : OpnFN N P fs off last α f ok) (hN : fuel ≤ N) (hlen : cs.length = last) :
    ∀ (xs : List (DataW H × List MemPlace)), xs.length = fs.length → (∀ (i : Nat) (fd : Field), fs[i]? = some fd → DataW.trod enc P W 0 (fun _ => true) true fuel fd.type ((cs.drop fd.offset).take (P.cellsOf fd.type)) = xs[i]?) →
      (∀ n ∈ DataW.weightsEach P (fs.map (·.type)) (xs.map (·.1)), n ≤ reachBytes) →
      ∃ a, ok a ∧ ∀ (j : Nat) (T : Ty) (u : Value), (f a)[j]? = some T → cs[off + j]? = some u → T.p (heapImm W) u ∧ u.oneCell' = true := by
  induction h with
  | nil off => intro xs _ _ _; exact ⟨(), trivial, fun j T u hj => by simp at hj⟩
  | cons ho h r ih =>
    rename_i fd fs off last A B fa oka fb okb
    intro xs hl hx hw
    cases xs with
    | nil => simp at hl
    | cons x xs =>
      have h0 := hx 0 fd rfl
      simp only [List.getElem?_cons_zero] at h0
      obtain ⟨a, a1, a2, a3⟩ := h.go enc W fuel _ x hN h0 (fun n hn => hw n (by simp only [List.map_cons, DataW.weightsEach, List.mem_append]; exact .inl hn))
      obtain ⟨b, b1, b2⟩ := ih hlen xs (by simpa using hl) (fun i fd' hi => by
        have := hx (i + 1) fd' (by simpa using hi)
        simpa using this) (fun n hn => hw n (by simp only [List.map_cons, DataW.weightsEach, List.mem_append]; exact .inr hn))
      refine ⟨(a, b), ⟨a1, b1⟩, fun j T u hj hu => ?_⟩
      dsimp only at hj
      have hsz := h.size a
      by_cases hlt : j < (fa a).length
      · rw [List.getElem?_append_left hlt] at hj
        refine a3 j T u hj ?_
        rw [List.getElem?_take, List.getElem?_drop, if_pos (by omega), ho]
        exact hu
      · rw [List.getElem?_append_right (by omega)] at hj
        refine b2 _ T u hj ?_
        rw [← hu]
        congr 1; omega
theorem OpnN.struct {fs : Array Field} {last : Nat} {α : Type} {f : α → List Ty} {ok : α → Prop} (ht : P.underlying t = some (.struct fs)) (hs : P.cellsOf t = last) (h : OpnFN N P fs.toList 0 last α f ok) : OpnN (N + 1) P t f ok where
  size := fun a => by have := h.size a; omega
  go := by
    intro H enc W fuel cs x hN hx hw
    obtain ⟨xs, n, rfl, rfl, hl, hxl, hf⟩ := DataW.trod_struct ht hx
    obtain ⟨a, a1, a2⟩ := h.go (by omega) (by omega) xs (by simpa using hxl) (fun i fd hi => hf i fd (by simpa using hi)) (fun n hn => hw n (by simp only [DataW.weights, ht]; exact hn))
    have hsz := h.size a
    exact ⟨a, a1, by omega, fun j T u hj hu => a2 j T u hj (by rw [Nat.zero_add]; exact hu)⟩
/-- Nothing reads at depth nought. -/
theorem OpnN.none {α : Type} {f : α → List Ty} {ok : α → Prop} {fs : Array Field} (hs : ∀ a, (f a).length = P.cellsOf t) (ht : P.underlying t = some (.struct fs)) : OpnN 0 P t f ok where
  size := hs
  go := by
    intro H enc W fuel cs x hN hx hw
    obtain ⟨xs, n, h, _⟩ := DataW.trod_struct ht hx
    omega
theorem OpnN.less {α : Type} {f : α → List Ty} {ok : α → Prop} {M : Nat} (h : OpnN M P t f ok) (hNM : N ≤ M) : OpnN N P t f ok := ⟨h.size, fun enc W fuel cs x hN hx hw => h.go enc W fuel cs x (Nat.le_trans hN hNM) hx hw⟩
end
end Go.Vk
set_option linter.unusedVariables false
namespace Go.Proofs.Ytibabbepnhpaiaa
open Go.Vk
/-- Opn, of readings no deeper than N, with a measure that the bulk bounds. -/
structure OpnU (N : Nat) (P : Program) (t : TypeId) {α : Type} (f : α → List Ty) (ok : α → Prop) (m : α → Nat) : Prop where
  size : ∀ a, (f a).length = P.cellsOf t
  go : ∀ {H : Type} (enc : TypeId × Value → H) (W : World) (fuel : Nat) (cs : List Value) (x : DataW H × List MemPlace), fuel ≤ N → DataW.trod enc P W 0 (fun _ => true) true fuel t cs = some x → (∀ n ∈ x.1.weights P t, n ≤ reachBytes) →
    ∃ a, ok a ∧ m a ≤ Rows.uptoBulk x.1 ∧ cs.length = (f a).length ∧ ∀ (j : Nat) (T : Ty) (u : Value), (f a)[j]? = some T → cs[j]? = some u → T.p (heapImm W) u ∧ u.oneCell' = true
section
variable {P : Program} {t : TypeId} {N : Nat}
theorem bulk_pos {H : Type} (d : DataW H) : 1 ≤ Rows.uptoBulk d := by
  unfold Rows.uptoBulk
  split <;> omega
theorem bulk_sum {H : Type} {α : Type} {m : α → Nat} : ∀ (l : List α) (ds : List (DataW H)), l.length = ds.length → (∀ (i : Nat) (a : α) (d : DataW H), l[i]? = some a → ds[i]? = some d → m a ≤ Rows.uptoBulk d) → (l.map m).sum ≤ Rows.uptoBulkAll ds
  | [], ds, _, _ => by simp
  | a :: l, [], h, _ => by simp at h
  | a :: l, d :: ds, h, hm => by
    have h1 := hm 0 a d rfl rfl
    have h2 := bulk_sum l ds (by simpa using h) (fun i a d hi hd => hm (i + 1) a d (by simpa using hi) (by simpa using hd))
    rw [Rows.uptoBulkAll, List.map_cons, List.sum_cons]
    omega
theorem OpnU.str (ht : P.underlying t = some .string) (hs : P.cellsOf t = 1) : OpnU N P t cS (fun l => l.length ≤ reachBytes) (fun l => l.length + 1) where
  size := fun _ => hs.symm
  go := by
    intro H enc W fuel cs x _ h hw
    obtain ⟨s, rfl, rfl, hm⟩ := DataW.trod_string ht h
    refine ⟨s.data.toList, hw _ (by simp [DataW.weights]), by simp [Rows.uptoBulk], rfl, one_at ?_ rfl⟩
    show Value.string s = .string _
    simp
theorem OpnU.int {k : IntKind} (ht : P.underlying t = some (.int k)) (hs : P.cellsOf t = 1) : OpnU N P t (fun n : Int => [okI k n]) (fun n => (Lit.int k n).wf = true) (fun _ => 1) where
  size := fun _ => hs.symm
  go := by
    intro H enc W fuel cs x _ h hw
    obtain ⟨n, rfl, rfl, hm⟩ := DataW.trod_int ht h
    exact ⟨n, hm, bulk_pos _, rfl, one_at rfl rfl⟩
theorem OpnU.byte (ht : P.underlying t = some (.int .u8)) (hs : P.cellsOf t = 1) : OpnU N P t cB (fun _ => True) (fun _ => 1) where
  size := fun _ => hs.symm
  go := by
    intro H enc W fuel cs x _ h hw
    obtain ⟨n, rfl, rfl, hm⟩ := DataW.trod_int ht h
    exact ⟨b8 n, trivial, bulk_pos _, rfl, one_at (arg_u8 hm) rfl⟩
theorem OpnU.bool (ht : P.underlying t = some .bool) (hs : P.cellsOf t = 1) : OpnU N P t (fun b : Bool => [Is (.bool b)]) (fun _ => True) (fun _ => 1) where
  size := fun _ => hs.symm
  go := by
    intro H enc W fuel cs x _ h hw
    obtain ⟨b, rfl, rfl⟩ := DataW.trod_bool ht h
    exact ⟨b, trivial, bulk_pos _, rfl, one_at rfl rfl⟩
theorem OpnU.map {α β : Type} {f : α → List Ty} {ok : α → Prop} {m : α → Nat} (h : OpnU N P t f ok m) (g : α → β) {f' : β → List Ty} {ok' : β → Prop} {m' : β → Nat} (hs : ∀ b, (f' b).length = P.cellsOf t) (hf : ∀ a, f' (g a) = f a) (hok : ∀ a, ok a → ok' (g a)) (hm : ∀ a, m' (g a) ≤ m a) : OpnU N P t f' ok' m' where
  size := hs
  go := by
    intro H enc W fuel cs x hN hx hw
    obtain ⟨a, h1, h0, h2, h3⟩ := h.go enc W fuel cs x hN hx hw
    refine ⟨g a, hok a h1, Nat.le_trans (hm a) h0, by rw [hf]; exact h2, by rw [hf]; exact h3⟩
theorem OpnU.less {α : Type} {f : α → List Ty} {ok : α → Prop} {m : α → Nat} {M : Nat} (h : OpnU M P t f ok m) (hNM : N ≤ M) : OpnU N P t f ok m := ⟨h.size, fun enc W fuel cs x hN hx hw => h.go enc W fuel cs x (Nat.le_trans hN hNM) hx hw⟩
theorem OpnU.nought {α : Type} {f : α → List Ty} {ok : α → Prop} {m : α → Nat} {fs : Array Field} (hs : ∀ a, (f a).length = P.cellsOf t) (ht : P.underlying t = some (.struct fs)) : OpnU 0 P t f ok m where
  size := hs
  go := by
    intro H enc W fuel cs x hN hx hw
    obtain ⟨xs, n, h, _⟩ := DataW.trod_struct ht hx
    omega
theorem OpnU.slice {e : TypeId} {α : Type} {f : α → List Ty} {ok : α → Prop} {m : α → Nat} (h : OpnU N P e f ok m) (ht : P.underlying t = some (.slice e)) (hs : P.cellsOf t = 1) (hz : Nat.blt 0 (P.cellsOf e) = true) : OpnU (N + 1) P t (cL (P.cellsOf e) f) (fun l => l.length * P.bytesOf e ≤ reachBytes ∧ ∀ a ∈ l, ok a) (fun l => (l.map m).sum + 1) where
  size := fun _ => hs.symm
  go := by
    intro H enc W fuel cs x hN hx hw
    have hz : 0 < P.cellsOf e := Nat.le_of_ble_eq_true hz
    rcases DataW.trod_slice ht hx with ⟨rfl, rfl⟩ | ⟨a, len, cap, elems, rest, n, rfl, rfl, rfl, _, hlc, hcm, hel, hget, _, _⟩
    · exact ⟨[], ⟨by simp, by simp⟩, by simp [Rows.uptoBulk], rfl, one_at (TSlX.sl (nil_sl _ f _)) rfl⟩
    · have key : ∀ i : Fin len, ∃ y : α, ok y ∧ (∀ d, (elems.map (·.1))[i.val]? = some d → m y ≤ Rows.uptoBulk d) ∧ ∃ cs', W.cells? 0 (a.add (i.val * P.cellsOf e)) (P.cellsOf e) = some cs' ∧ ∀ (j : Nat) (T : Ty) (u : Value), (f y)[j]? = some T → cs'[j]? = some u → T.p (heapImm W) u ∧ u.oneCell' = true := by
        intro i
        have hi := hget i.val i.isLt
        have hlt : i.val < elems.length := by rw [hel]; exact i.isLt
        rw [List.getElem?_eq_getElem hlt, Option.bind_eq_some_iff] at hi
        obtain ⟨cs', h1, h2⟩ := hi
        obtain ⟨y, g1, g0, g2, g3⟩ := h.go enc W n cs' _ (by omega) h2 (fun m1 hm => hw m1 (by
          simp only [DataW.weights, ht]
          refine List.mem_cons_of_mem _ (List.mem_append_left _ ?_)
          exact weightsAll_mem (List.mem_map.2 ⟨_, List.getElem_mem hlt, rfl⟩) m1 hm))
        exact ⟨y, g1, fun d hd => by
          rw [List.getElem?_map, List.getElem?_eq_getElem hlt] at hd
          cases hd
          exact g0, cs', h1, g3⟩
      let l : List α := List.ofFn fun i : Fin len => (key i).choose
      have hll : l.length = len := by simp [l]
      have hl : ∀ (i : Nat) (y : α), l[i]? = some y → ∃ hi : i < len, y = (key ⟨i, hi⟩).choose := by
        intro i y hy
        have hi : i < len := by have := (List.getElem?_eq_some_iff.1 hy).1; omega
        refine ⟨hi, ?_⟩
        simp only [l, List.getElem?_ofFn, hi, dite_true, Option.some.injEq] at hy
        exact hy.symm
      refine ⟨l, ⟨?_, ?_⟩, ?_, rfl, one_at ?_ rfl⟩
      · have := hw ((elems.length + rest.length) * P.bytesOf e) (by simp only [DataW.weights, ht, List.length_map]; exact List.mem_cons_self)
        have h2 : l.length * P.bytesOf e ≤ (elems.length + rest.length) * P.bytesOf e := Nat.mul_le_mul_right _ (by omega)
        omega
      · intro y hy
        obtain ⟨i, hi⟩ := List.mem_iff_getElem?.1 hy
        obtain ⟨hlt, rfl⟩ := hl i y hi
        exact (key ⟨i, hlt⟩).choose_spec.1
      · have hb := bulk_sum (m := m) l (elems.map (·.1)) (by rw [hll, List.length_map, hel]) (fun i a d hi hd => by
          obtain ⟨hlt, rfl⟩ := hl i a hi
          exact (key ⟨i, hlt⟩).choose_spec.2.1 d hd)
        simp only [Rows.uptoBulk]; omega
      · refine ⟨some a, cap, by rw [hll], by omega, hcm, (fun e => by cases e), (fun e => by cases e), fun ad e => ?_⟩
        cases e
        have hspot : 0 < len → a.spot = none := by
          intro hp
          obtain ⟨_, _, cs', h1, _⟩ := (key ⟨0, hp⟩).choose_spec
          have h2 := (World.cells?_some h1).2.2 0 hz
          have h3 : ∃ u, W.cell? ((a.add (0 * P.cellsOf e)).add 0) = some u := by
            have h4 := (World.cells?_some h1).2.1
            exact ⟨_, h2.trans (List.getElem?_eq_getElem (by omega))⟩
          obtain ⟨u, hu⟩ := h3
          have := World.cell?_spot hu
          simpa [Addr.add] using this
        refine ⟨fun hp => hspot (by omega), fun i y hy => ⟨h.size y, ?_⟩⟩
        obtain ⟨hlt, rfl⟩ := hl i y hy
        obtain ⟨_, _, cs', h1, h3⟩ := (key ⟨i, hlt⟩).choose_spec
        have hsp := hspot (by omega)
        intro j T hT
        have hj : j < P.cellsOf e := by have := (List.getElem?_eq_some_iff.1 hT).1; rw [h.size] at this; exact this
        have h5 := World.cells?_some h1
        have hcj : cs'[j]? = some cs'[j] := List.getElem?_eq_getElem (by omega)
        refine ⟨cs'[j], ?_, h3 j T _ hT hcj⟩
        have h6 := h5.2.2 j hj
        rw [hcj] at h6
        show W.cell? _ = _
        rw [← h6]
        obtain ⟨b, o, sp⟩ := a
        have hsp : sp = none := hsp
        subst hsp
        rw [add_none, add_none]
/-! ### structs -/
inductive OpnFU (N : Nat) (P : Program) : List Field → Nat → Nat → (α : Type) → (α → List Ty) → (α → Prop) → (α → Nat) → Prop
  | nil (off : Nat) : OpnFU N P [] off off Unit (fun _ => []) (fun _ => True) (fun _ => 0)
  | cons {fd : Field} {fs : List Field} {off last : Nat} {A B : Type} {fa : A → List Ty} {oka : A → Prop} {fb : B → List Ty} {okb : B → Prop} {ma : A → Nat} {mb : B → Nat} (ho : fd.offset = off) (h : OpnU N P fd.type fa oka ma) (r : OpnFU N P fs (off + P.cellsOf fd.type) last B fb okb mb) : OpnFU N P (fd :: fs) off last (A × B) (fun p => fa p.1 ++ fb p.2) (fun p => oka p.1 ∧ okb p.2) (fun p => ma p.1 + mb p.2)
theorem OpnFU.size {fs : List Field} {off last : Nat} {α : Type} {f : α → List Ty} {ok : α → Prop} {m : α → Nat} (h : OpnFU N P fs off last α f ok m) : ∀ a, off + (f a).length = last := by
  induction h with
  | nil off => intro a; simp
  | cons ho h r ih =>
    rintro ⟨a, b⟩
    have h1 := h.size a
    have h2 := ih b
    simp only [List.length_append]; omega
theorem OpnFU.go {H : Type} {enc : TypeId × Value → H} {W : World} {fuel : Nat} {cs : List Value} {fs : List Field} {off last : Nat} {α : Type} {f : α → List Ty} {ok : α → Prop} {m : α → Nat} (h : OpnFU N P fs off last α f ok m) (hN : fuel ≤ N) (hlen : cs.length = last) :
    ∀ (xs : List (DataW H × List MemPlace)), xs.length = fs.length → (∀ (i : Nat) (fd : Field), fs[i]? = some fd → DataW.trod enc P W 0 (fun _ => true) true fuel fd.type ((cs.drop fd.offset).take (P.cellsOf fd.type)) = xs[i]?) →
      (∀ n ∈ DataW.weightsEach P (fs.map (·.type)) (xs.map (·.1)), n ≤ reachBytes) →
      ∃ a, ok a ∧ m a ≤ Rows.uptoBulkAll (xs.map (·.1)) ∧ ∀ (j : Nat) (T : Ty) (u : Value), (f a)[j]? = some T → cs[off + j]? = some u → T.p (heapImm W) u ∧ u.oneCell' = true := by
  induction h with
  | nil off => intro xs _ _ _; exact ⟨(), trivial, Nat.zero_le _, fun j T u hj => by simp at hj⟩
  | cons ho h r ih =>
    rename_i fd fs off last A B fa oka fb okb ma mb
    intro xs hl hx hw
    cases xs with
    | nil => simp at hl
    | cons x xs =>
      have h0 := hx 0 fd rfl
      simp only [List.getElem?_cons_zero] at h0
      obtain ⟨a, a1, a0, a2, a3⟩ := h.go enc W fuel _ x hN h0 (fun n hn => hw n (by simp only [List.map_cons, DataW.weightsEach, List.mem_append]; exact .inl hn))
      obtain ⟨b, b1, b0, b2⟩ := ih hlen xs (by simpa using hl) (fun i fd' hi => by
        have := hx (i + 1) fd' (by simpa using hi)
        simpa using this) (fun n hn => hw n (by simp only [List.map_cons, DataW.weightsEach, List.mem_append]; exact .inr hn))
      refine ⟨(a, b), ⟨a1, b1⟩, by simp only [List.map_cons, Rows.uptoBulkAll]; omega, fun j T u hj hu => ?_⟩
      dsimp only at hj
      have hsz := h.size a
      by_cases hlt : j < (fa a).length
      · rw [List.getElem?_append_left hlt] at hj
        refine a3 j T u hj ?_
        rw [List.getElem?_take, List.getElem?_drop, if_pos (by omega), ho]
        exact hu
      · rw [List.getElem?_append_right (by omega)] at hj
        refine b2 _ T u hj ?_
        rw [← hu]
        congr 1; omega
theorem OpnU.struct {fs : Array Field} {last : Nat} {α : Type} {f : α → List Ty} {ok : α → Prop} {m : α → Nat} (ht : P.underlying t = some (.struct fs)) (hs : P.cellsOf t = last) (h : OpnFU N P fs.toList 0 last α f ok m) : OpnU (N + 1) P t f ok (fun a => m a + 1) where
  size := fun a => by have := h.size a; omega
  go := by
    intro H enc W fuel cs x hN hx hw
    obtain ⟨xs, n, rfl, rfl, hl, hxl, hf⟩ := DataW.trod_struct ht hx
    obtain ⟨a, a1, a0, a2⟩ := h.go (by omega) (by omega) xs (by simpa using hxl) (fun i fd hi => hf i fd (by simpa using hi)) (fun n hn => hw n (by simp only [DataW.weights, ht]; exact hn))
    have hsz := h.size a
    exact ⟨a, a1, by simp only [Rows.uptoBulk]; omega, by omega, fun j T u hj hu => a2 j T u hj (by rw [Nat.zero_add]; exact hu)⟩
/-! ### arguments -/
section
variable {H : Type} {enc : TypeId × Value → H} {W : World} {v : Value} {d : DataW H} {ps : List MemPlace} {α : Type}
theorem OpnU.one {T : α → Ty} {ok : α → Prop} {m : α → Nat} (h : ∀ N, OpnU N P t (fun a => [T a]) ok m) (hc : v.cells = #[v]) (hd : DataW.Trod enc P W 0 (fun _ => true) true t v d ps) (hw : ∀ n ∈ d.weights P t, n ≤ reachBytes) : ∃ a, (ok a ∧ m a ≤ Rows.uptoBulk d) ∧ (T a).p (heapImm W) v := by
  obtain ⟨fuel, hf⟩ := hd
  obtain ⟨a, h1, h0, h2, h3⟩ := (h fuel).go enc W fuel _ _ (Nat.le_refl _) hf hw
  rw [hc] at h3
  exact ⟨a, ⟨h1, h0⟩, (h3 0 (T a) v rfl rfl).1⟩
theorem OpnU.sl {e : TypeId} {sz : Nat} {f : α → List Ty} {ok : List α → Prop} {m : List α → Nat} {r : Reach} {b0 : Nat} (h : ∀ N, OpnU N P t (cL sz f) ok m) (ht : P.underlying t = some (.slice e)) (hval : Value.okWide P W r b0 t v) (hd : DataW.Trod enc P W 0 (fun _ => true) true t v d ps) (hw : ∀ n ∈ d.weights P t, n ≤ reachBytes) : ∃ l, (ok l ∧ m l ≤ Rows.uptoBulk d) ∧ (TSl sz f l).p (heapImm W) v := by
  obtain ⟨a, len, cap, rfl⟩ := WideShapes.okWide_slice ht hval
  exact OpnU.one (T := fun l => TSl sz f l) h rfl hd hw
theorem OpnU.st {ok : List UInt8 → Prop} {m : List UInt8 → Nat} {r : Reach} {b0 : Nat} (h : ∀ N, OpnU N P t cS ok m) (ht : P.underlying t = some .string) (hval : Value.okWide P W r b0 t v) (hd : DataW.Trod enc P W 0 (fun _ => true) true t v d ps) (hw : ∀ n ∈ d.weights P t, n ≤ reachBytes) : ∃ l, (ok l ∧ m l ≤ Rows.uptoBulk d) ∧ (Is (Vk.str l)).p (heapImm W) v := by
  obtain ⟨s, rfl⟩ := WideShapes.okWide_string ht hval
  exact OpnU.one (T := fun l => Is (Vk.str l)) h rfl hd hw
theorem OpnU.ag {fs : Array Field} {f : α → List Ty} {ok : α → Prop} {m : α → Nat} {r : Reach} {b0 : Nat} (h : ∀ N, OpnU N P t f ok m) (ht : P.underlying t = some (.struct fs)) (hval : Value.okWide P W r b0 t v) (hd : DataW.Trod enc P W 0 (fun _ => true) true t v d ps) (hw : ∀ n ∈ d.weights P t, n ≤ reachBytes) : ∃ a, (ok a ∧ m a ≤ Rows.uptoBulk d) ∧ (TAgg (f a)).p (heapImm W) v := by
  obtain ⟨cs, rfl, hcs⟩ := WideShapes.okWide_struct ht hval
  obtain ⟨fuel, hf⟩ := hd
  obtain ⟨a, h1, h0, h2, h3⟩ := (h fuel).go enc W fuel _ _ (Nat.le_refl _) hf hw
  exact ⟨a, ⟨h1, h0⟩, cs.toList, by simp, by simpa [Value.cells] using h2, fun j T u hj hu => h3 j T u hj (by simpa [Value.cells] using hu)⟩
end
theorem bulk_at {H : Type} {ds : List (DataW H)} (h : Rows.uptoSmall H ds = true) {j : Nat} {d : DataW H} (hd : ds[j]? = some d) : Rows.uptoBulk d ≤ 1048576 := by
  have h0 : Rows.uptoBulkAll ds ≤ 1048576 := of_decide_eq_true h
  have key : ∀ (ds : List (DataW H)) (j : Nat), ds[j]? = some d → Rows.uptoBulk d ≤ Rows.uptoBulkAll ds := by
    intro ds
    induction ds with
    | nil => intro j hj; simp at hj
    | cons x r ih =>
      intro j hj
      rw [Rows.uptoBulkAll]
      cases j with
      | zero => simp at hj; subst hj; omega
      | succ j => have := ih j (by simpa using hj); omega
  exact Nat.le_trans (key ds j hd) h0
end
end Go.Proofs.Ytibabbepnhpaiaa
set_option linter.unusedVariables false
namespace Go.En
open Go.Vk
theorem wAva_pos (a : Dn.Ava) : 1 ≤ wAva a := by rw [wAva_def]; omega
theorem wAt_pos (a : Attr) : 1 ≤ wAt a := by rw [wAt_def]; omega
theorem wV_pos (a : List UInt8) : 1 ≤ wV a := by rw [wV_def]; omega
/-- What a weight bounds. -/
theorem small {e : Entry} {k : Nat} (h : wE e ≤ k) : e.dn.length ≤ k ∧ e.attrs.length ≤ k ∧ (∀ a ∈ e.dn, a.typ.length ≤ k ∧ a.val.length ≤ k) ∧ ∀ a ∈ e.attrs, a.typ.length ≤ k ∧ a.vals.length ≤ k := by
  rw [wE_def] at h
  have h1 := sm_len wAva_pos e.dn
  have h2 := sm_len wAt_pos e.attrs
  refine ⟨by omega, by omega, fun a ha => ?_, fun a ha => ?_⟩
  · have h3 := sm_mem (f := wAva) ha
    rw [wAva_def] at h3
    omega
  · have h3 := sm_mem (f := wAt) ha
    have h4 := sm_len wV_pos a.vals
    rw [wAt_def] at h3
    omega
theorem vals_len : ∀ l : List Attr, (l.flatMap fun a => a.vals).length ≤ sm wAt l
  | [] => by simp
  | a :: r => by
    have h1 := vals_len r
    have h2 := sm_len wV_pos a.vals
    have h3 := wAt_def a
    unfold sm at h1 ⊢
    rw [List.flatMap_cons, List.length_append, List.map_cons, List.sum_cons]
    unfold sm at h2 h3
    omega
theorem small_sane {e : Entry} {k : Nat} (h : wE e ≤ k) (hk : k ≤ 1048576) : sane e := by
  obtain ⟨h1, h2, h3, h4⟩ := small h
  exact ⟨by omega, fun a ha => by have := h3 a ha; omega, by omega, fun a ha => by have := h4 a ha; omega⟩
end Go.En
set_option maxRecDepth 8000
set_option linter.unusedVariables false
namespace Go.Proofs.Ytibabbepnhpaiaa
open Go.Vk
attribute [local irreducible] HT HX RegS RegA RegM OpP OpC AltT
attribute [local irreducible] En.wV En.wAva En.wAt En.wE Dn.foldE En.getL En.isN En.encB
set_option maxHeartbeats 4000000 in
theorem lwEncodes20 (a b : En.Entry) (t : List UInt8) (ha : En.wE a ≤ 1048576) (hb : En.wE b ≤ 1048576) : CFn Try.prog 4 [TAgg (En.cEnt a), TAgg (En.cEnt b), Is (str t)] (Is (.bool true)) := by
  have e2 : En.sm En.wE [a, b] = En.wE a + En.wE b := by unfold En.sm; simp
  have s1 := En.small ha
  have s2 := En.small hb
  have c0 := lwGreat20 [a, b] (by rw [e2]; omega) (by simp) (fun e he => by
    simp only [List.mem_cons, List.not_mem_nil, or_false] at he
    rcases he with rfl | rfl
    · exact ⟨by omega, by omega, fun x hx => by have := s1.2.2.2 x hx; omega⟩
    · exact ⟨by omega, by omega, fun x hx => by have := s2.2.2.2 x hx; omega⟩)
  rw [e2] at c0
  by_cases hg : 4000 < En.wE a + En.wE b
  · have su := Sure.mk' [16, 17, 18]
    rw [decide_eq_true (by omega)] at c0
    refine CallsC.of Try.call4 Try.func4 rfl Try.ntmps4 rfl fun w0 G0 S0 hs ho => ?_
    exact run trivial
  rw [decide_eq_false (by omega)] at c0
  by_cases ht : 100 < t.length
  · have su := Sure.mk' [16, 17, 18]
    refine CallsC.of Try.call4 Try.func4 rfl Try.ntmps4 rfl fun w0 G0 S0 hs ho => ?_
    exact run trivial
  have hsa := En.small_sane (k := 4000) (e := a) (by omega) (by omega)
  have s3 := En.small (k := 4000) (e := a) (by omega)
  have hvl := En.vals_len a.attrs
  have hwa := En.wE_def a
  have c1 := enEncode a hsa
  have c2 := rf20Encode a hsa
  have c3 := enIs a hsa
  have c4 := rf20Is a hsa
  have c5 := enGet a t (by omega) (by omega) (by omega) (fun x hx => by have := s3.2.2.2 x hx; omega)
  have c6 := rfVals a t (by omega) (by omega) (by omega) (fun x hx => by have := s3.2.2.2 x hx; omega)
  have c7 := lwTexts (En.getL a.attrs t) (En.getL a.attrs t) (by have := En.getL_len a.attrs t; omega)
  rw [decide_eq_true rfl] at c7
  have c8 := enSame a b hsa
  have c9 := rf20Same a b hsa
  have d1 := enSame a a hsa
  have d2 := rf20Same a a hsa
  rw [decide_eq_true rfl] at d1 d2
  have d3 := enOwn a (by omega) (by omega) (fun x hx => by have := s3.2.2.2 x hx; omega)
  have d4 := lwKnown
  have su := Sure.mk' [16, 17, 18, 34, 35, 36, 39, 40, 41, 42, 43, 46, 47, 48, 49, 50, 51, 52, 55, 56, 57, 58, 59, 60, 61, 64, 65, 66, 69, 70, 71, 72, 75]
  refine CallsC.of Try.call4 Try.func4 rfl Try.ntmps4 rfl fun w0 G0 S0 hs ho => ?_
  refine run ?_
  intro _
  simp
/-! ### entries as arguments -/
theorem opnAvaU (N : Nat) : OpnU (N + 1) Try.prog 53 Dn.cAva (fun _ => True) En.wAva :=
  (OpnU.struct (N := N) Try.underlying53 (by kernel_rfl) (OpnFU.cons rfl (OpnU.str Try.underlying9 (by kernel_rfl)) (OpnFU.cons rfl (OpnU.str Try.underlying9 (by kernel_rfl)) (OpnFU.nil _)))).map
    (fun p => ⟨p.1, p.2.1⟩) (fun a => by kernel_rfl) (fun p => rfl) (fun p h => trivial) (fun p => by rw [En.wAva_def]; dsimp only; omega)
theorem opnAttrU (N : Nat) : OpnU (N + 2) Try.prog 46 En.cAttr (fun _ => True) En.wAt := by
  have h := OpnU.slice (OpnU.str (N := N) (P := Try.prog) Try.underlying9 (by kernel_rfl)) Try.underlying41 (by kernel_rfl) (by kernel_rfl)
  rw [show Try.prog.cellsOf 9 = 1 by kernel_rfl] at h
  exact (OpnU.struct (N := N + 1) Try.underlying46 (by kernel_rfl) (OpnFU.cons rfl (OpnU.str Try.underlying9 (by kernel_rfl)) (OpnFU.cons rfl h (OpnFU.nil _)))).map
    (fun p => ⟨p.1, p.2.1⟩) (fun a => by kernel_rfl) (fun p => rfl) (fun p h => trivial) (fun p => by
      rw [En.wAt_def]
      have e : En.sm En.wV p.2.1 = (p.2.1.map (fun l => l.length + 1)).sum := by
        unfold En.sm
        congr 1
        exact List.map_congr_left (fun x _ => by rw [En.wV_def]; omega)
      dsimp only
      rw [e]
      omega)
theorem opnEntU (N : Nat) : OpnU N Try.prog 25 En.cEnt (fun _ => True) En.wE := by
  have h1 := OpnU.slice (opnAvaU (N + 1)) Try.underlying22 (by kernel_rfl) (by kernel_rfl)
  have h2 := OpnU.slice (opnAttrU N) Try.underlying23 (by kernel_rfl) (by kernel_rfl)
  rw [show Try.prog.cellsOf 53 = 2 by kernel_rfl] at h1
  rw [show Try.prog.cellsOf 46 = 2 by kernel_rfl] at h2
  exact ((OpnU.struct (N := N + 3) Try.underlying25 (by kernel_rfl) (OpnFU.cons rfl h1 (OpnFU.cons rfl h2 (OpnFU.nil _)))).map
    (fun p => ⟨p.1, p.2.1⟩) (fun a => by kernel_rfl) (fun p => rfl) (fun p h => trivial) (fun p => by
      rw [En.wE_def]
      unfold En.sm
      dsimp only
      omega)).less (by omega)
end Go.Proofs.Ytibabbepnhpaiaa
