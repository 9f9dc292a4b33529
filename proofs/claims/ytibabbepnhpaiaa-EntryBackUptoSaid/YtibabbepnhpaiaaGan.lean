/-
  Own: an entry whose attributes and values are of its own, each in a block of its own.
  The contract of the law EntryBack.
-/
import Derived.Test.YtibabbepnhpaiaaGam
import Derived.Test.YtibabbepnhpaiaaGal
set_option linter.unusedSimpArgs false
set_option linter.unusedVariables false
set_option linter.unusedVariables false
namespace Go.Vk
/-- A row of resources. -/
def famR {β : Type} (R : β → Res) : List β → Res
  | [] => packR (fun _ : Unit => [])
  | b :: r => packR (fun _ : Unit => [R b, famR R r])
/-- What two resources are together. -/
structure JoinR (R1 R2 R3 : Res) : Prop where
  h : ∀ (S1 S2 : Nat → Prop) (G : Imm) (w : World), (∀ b, S1 b → S2 b → False) → R1.p S1 G w → R2.p S2 G w → R3.p (fun b => S1 b ∨ S2 b) G w
theorem packTwo {A B : Res} {S1 S2 : Nat → Prop} {G : Imm} {w : World} (hd : ∀ b, S1 b → S2 b → False) (h1 : A.p S1 G w) (h2 : B.p S2 G w) : (packR (fun _ : Unit => [A, B])).p (fun b => S1 b ∨ S2 b) G w := by
  refine ⟨(), fun i b => (i = 0 ∧ S1 b) ∨ (i = 1 ∧ S2 b), fun b => ?_, ?_, ?_, ?_⟩
  · constructor
    · rintro (h | h)
      · exact ⟨0, .inl ⟨rfl, h⟩⟩
      · exact ⟨1, .inr ⟨rfl, h⟩⟩
    · rintro ⟨i, ⟨_, h⟩ | ⟨_, h⟩⟩
      · exact .inl h
      · exact .inr h
  · rintro i j b (⟨rfl, h⟩ | ⟨rfl, h⟩) (⟨rfl, k⟩ | ⟨rfl, k⟩)
    · rfl
    · exact (hd b h k).elim
    · exact (hd b k h).elim
    · rfl
  · rintro i b (⟨rfl, _⟩ | ⟨rfl, _⟩) <;> simp
  · intro i r hr
    match i, hr with
    | 0, hr =>
      simp at hr; subst hr
      have : (fun b => ((0 : Nat) = 0 ∧ S1 b) ∨ ((0 : Nat) = 1 ∧ S2 b)) = S1 := by funext b; simp
      show A.p (fun b => ((0 : Nat) = 0 ∧ S1 b) ∨ ((0 : Nat) = 1 ∧ S2 b)) G w
      rw [this]; exact h1
    | 1, hr =>
      simp at hr; subst hr
      have : (fun b => ((1 : Nat) = 0 ∧ S1 b) ∨ ((1 : Nat) = 1 ∧ S2 b)) = S2 := by funext b; simp
      show B.p (fun b => ((1 : Nat) = 0 ∧ S1 b) ∨ ((1 : Nat) = 1 ∧ S2 b)) G w
      rw [this]; exact h2
    | n + 2, hr => simp at hr
theorem famR_snoc {β : Type} {R : β → Res} (b : β) : ∀ acc : List β, JoinR (famR R acc) (R b) (famR R (acc ++ [b]))
  | [] => ⟨fun S1 S2 G w hd h1 h2 => by
      have := packTwo (A := R b) (B := famR R []) (S1 := S2) (S2 := S1) (G := G) (w := w) (fun x p q => hd x q p) h2 h1
      have e : (fun b => S1 b ∨ S2 b) = (fun b => S2 b ∨ S1 b) := by funext x; exact propext Or.comm
      rw [e]; exact this⟩
  | a :: r => ⟨fun S1 S2 G w hd h1 h2 => by
      obtain ⟨_, Sc, k1, k2, k3, k4⟩ := h1
      have hA := k4 0 (R a) rfl
      have hB := k4 1 (famR R r) rfl
      have hs : ∀ x, S1 x ↔ (Sc 0 x ∨ Sc 1 x) := fun x => by
        rw [k1 x]
        constructor
        · rintro ⟨i, hi⟩
          have := k3 i x hi
          simp only [List.length_cons, List.length_nil] at this
          match i, hi, this with
          | 0, hi, _ => exact .inl hi
          | 1, hi, _ => exact .inr hi
        · rintro (h | h)
          · exact ⟨0, h⟩
          · exact ⟨1, h⟩
      have hB' := (famR_snoc b r).h (Sc 1) S2 G w (fun x p q => hd x ((hs x).2 (.inr p)) q) hB h2
      have := packTwo (A := R a) (B := famR R (r ++ [b])) (S1 := Sc 0) (S2 := fun x => Sc 1 x ∨ S2 x) (G := G) (w := w) (fun x p q => by
        rcases q with q | q
        · exact absurd (k2 0 1 x p q) (by decide)
        · exact hd x ((hs x).2 (.inl p)) q) hA hB'
      have e : (fun x => S1 x ∨ S2 x) = (fun x => Sc 0 x ∨ (Sc 1 x ∨ S2 x)) := by
        funext x; apply propext; rw [hs x, or_assoc]
      rw [e]; exact this⟩
theorem Owns.join {S : Nat → Nat → Prop} {L : List Res} {G : Imm} {w : World} {k k2 : Nat} {R1 R2 R3 : Res} (h : Owns S L G w) (hL : L[k]? = some R1) (hL2 : L[k2]? = some R2) (hne : k ≠ k2) (hj : JoinR R1 R2 R3) : Owns (fun j b => if j = k then (S k b ∨ S k2 b) else (j ≠ k2 ∧ S j b)) ((L.set k R3).set k2 empR) G w := by
  have hk : k < L.length := (List.getElem?_eq_some_iff.1 hL).1
  have hk2 : k2 < L.length := (List.getElem?_eq_some_iff.1 hL2).1
  refine ⟨?_, ?_, ?_, ?_⟩
  · intro j b hb
    split at hb
    · rcases hb with hb | hb
      · exact h.bound k b hb
      · exact h.bound k2 b hb
    · exact h.bound j b hb.2
  · intro i j b hi hj'
    split at hi <;> split at hj'
    · omega
    · rcases hi with hi | hi
      · have := h.disj _ _ b hi hj'.2; omega
      · have := h.disj _ _ b hi hj'.2; omega
    · rcases hj' with hj' | hj'
      · have := h.disj _ _ b hi.2 hj'; omega
      · have := h.disj _ _ b hi.2 hj'; omega
    · exact h.disj _ _ b hi.2 hj'.2
  · intro j b hb
    simp only [List.length_set]
    split at hb
    · omega
    · exact h.inL j b hb.2
  · intro j r hr
    rw [List.getElem?_set] at hr
    by_cases hj2 : k2 = j
    · subst hj2
      rw [if_pos rfl, if_pos (by simpa using hk2)] at hr
      cases hr
      trivial
    · rw [if_neg hj2, List.getElem?_set] at hr
      by_cases hjk : k = j
      · subst hjk
        rw [if_pos rfl, if_pos hk] at hr
        cases hr
        have := hj.h (S k) (S k2) G w (fun b p q => hne (h.disj _ _ b p q)) (h.res k _ hL) (h.res k2 _ hL2)
        have e : (fun b => if k = k then (S k b ∨ S k2 b) else (k ≠ k2 ∧ S k b)) = (fun b => S k b ∨ S k2 b) := by funext b; simp
        rw [e]; exact this
      · rw [if_neg hjk] at hr
        have e : (fun b => if j = k then (S k b ∨ S k2 b) else (j ≠ k2 ∧ S j b)) = S j := by
          funext b
          rw [if_neg (fun x => hjk x.symm)]
          exact propext ⟨fun x => x.2, fun x => ⟨fun x => hj2 x.symm, x⟩⟩
        rw [e]; exact h.res j r hr
theorem HT.join {F : FCtx} {E : Env} {L : List Res} {Q : Exit → Act → World → Prop} {code : Code} {R1 R2 R3 : Res} (k k2 : Nat) (hL : L[k]? = some R1) (hL2 : L[k2]? = some R2) (hne : Nat.beq k k2 = false) (hj : JoinR R1 R2 R3) (h : HT F E ((L.set k R3).set k2 empR) code Q) : HT F E L code Q := by
  unfold HT at h ⊢
  intro a w G S hi ht
  have hne' : k ≠ k2 := fun x => by rw [x, Nat.beq_refl] at hne; cases hne
  refine h a w G _ ⟨hi.ext, hi.owns.join hL hL2 hne' hj, fun j b hb => ?_⟩ ht
  split at hb
  · rcases hb with hb | hb
    · exact hi.mine _ b hb
    · exact hi.mine _ b hb
  · exact hi.mine _ b hb.2
theorem ownA_as {α β : Type} {g c sz : Nat} {e : TypeId} {f : α → List Ty} {f' : β → List Ty} (h : α → β) (he : ∀ a, f' (h a) = f a) (l : List α) : ownA g c e sz f' (l.map h) = ownA g c e sz f l := by
  rw [← ownA_map f l, ← ownA_map f' (l.map h), List.map_map]
  congr 2
  funext a; exact he a
/-- The second cell. -/
def cell1 : Value → Value
  | .agg cs => cs.getD 1 (.int .i64 0)
  | _ => .int .i64 0
end Go.Vk
namespace Go.En
open Go.Vk
structure Row where
  typ : List UInt8
  vals : List (List UInt8)
  g : Nat
  c : Nat
instance : Inhabited Row := ⟨⟨[], [], 0, 0⟩⟩
def cRow (r : Row) : List Ty := [Is (str r.typ), Is (slAt r.g r.vals.length r.c)]
def attrOf (r : Row) : Attr := ⟨r.typ, r.vals⟩
def cX (x : List UInt8 × Ty) : List Ty := [Is (str x.1), x.2]
def xMine (r : Row) : List UInt8 × Ty := (r.typ, Is (slAt r.g r.vals.length r.c))
def xOrig (a : Attr) : List UInt8 × Ty := (a.typ, TSl 1 cS a.vals)
instance : Inhabited (List UInt8 × Ty) := ⟨xMine default⟩
def xs (acc : List Row) (l : List Attr) : List (List UInt8 × Ty) := acc.map xMine ++ (l.drop acc.length).map xOrig
theorem xs_len {acc : List Row} {l : List Attr} (h : acc.length ≤ l.length) : (xs acc l).length = l.length := by unfold xs; simp; omega
theorem xs_get {acc : List Row} {l : List Attr} (h : acc.length < l.length) : (xs acc l).getD acc.length default = xOrig (l.getD acc.length default) := by
  unfold xs
  rw [List.getD_eq_getElem?_getD, List.getElem?_append_right (by simp), List.length_map, Nat.sub_self, List.getElem?_map, List.getElem?_drop, Nat.add_zero, List.getElem?_eq_getElem h, List.getD_eq_getElem?_getD, List.getElem?_eq_getElem h]
  rfl
theorem xs_set {acc : List Row} {l : List Attr} (h : acc.length < l.length) (g c : Nat) : (xs acc l).set acc.length ((l.getD acc.length default).typ, Is (slAt g (l.getD acc.length default).vals.length c)) = xs (acc ++ [⟨(l.getD acc.length default).typ, (l.getD acc.length default).vals, g, c⟩]) l := by
  unfold xs
  rw [List.set_append_right _ _ (by simp), List.length_map, Nat.sub_self, List.drop_eq_getElem_cons h, List.map_cons, List.set_cons_zero, List.map_append, List.length_append, List.length_singleton, List.append_assoc]
  rfl
theorem xs_nil (l : List Attr) : xs [] l = l.map xOrig := rfl
theorem xs_all {acc : List Row} {l : List Attr} (h : acc.length = l.length) : xs acc l = acc.map xMine := by
  unfold xs; rw [h, List.drop_length]; simp
end Go.En
set_option maxRecDepth 8000
set_option linter.unusedVariables false
namespace Go.Proofs.Ytibabbepnhpaiaa
open Go.Vk
attribute [local irreducible] HT HX RegS RegA RegM OpP OpC AltT
attribute [local irreducible] En.xs
abbrev RV (r : En.Row) : Res := ownA r.g r.c 9 1 En.cS r.vals
theorem txtCloneO (l : List (List UInt8)) (h0 : 0 < l.length) (hl : l.length ≤ 134217728) : CallsC Try.prog 46 [TSl 1 En.cS l] [] (fun v => Is (slAt (sblk v) l.length (scap v))) (fun v => [ownA (sblk v) (scap v) 9 1 En.cS l]) := by
  have mu := Mut.mk' [7]
  refine CallsC.of Try.call46 Try.func46 rfl Try.ntmps46 rfl fun w0 G0 S0 hs ho => ?_
  refine run ?_
  refine ⟨fun h => by rw [h] at h0; simp at h0, fun v0 => ?_⟩
  refine HX.finP (u := slAt (sblk v0) l.length (scap v0)) [[0]] (.inl rfl) (by apply ResR.tmp rfl; exact ResR.nil) rfl ?_ ?_
  · rw [sblk_at, scap_at]; exact run trivial
  · rw [sblk_at, scap_at]; exact Sub.refl _
set_option maxHeartbeats 4000000 in
theorem enOwnB (d : List Dn.Ava) (l : List En.Attr) (h0 : 0 < l.length) (h1 : d.length ≤ 100000000) (h2 : l.length ≤ 100000000) (h3 : ∀ a ∈ l, 0 < a.vals.length ∧ a.vals.length ≤ 100000000) : CallsC Try.prog 19 [TAgg (En.cEnt ⟨d, l⟩)] [] (fun v => TAgg [TSl 2 Dn.cAva d, Is (slAt (sblk (cell1 v)) l.length (scap (cell1 v)))]) (fun v => [packR fun rows : {rows : List En.Row // rows.map En.attrOf = l} => [ownA (sblk (cell1 v)) (scap (cell1 v)) 46 2 En.cRow rows.1, famR RV rows.1]]) := by
  have c1 := avaClone d (by omega)
  have c2 := attrCloneO l h0 (by omega)
  have st := Stop.mk' 1
  refine CallsC.of Try.call19 Try.func19 rfl Try.ntmps19 rfl fun w0 G0 S0 hs ho => ?_
  refine run ?_
  intro v0
  refine HT.regionT (σ := Nat × Value) [(0,3,[]),(1,3,[]),(2,3,[]),(3,3,[]),(4,3,[])] (.br (5,0,[]) (.br (6,3,[]) (seqT [(7,0,[]),(8,0,[])]) (.br (7,0,[]) (seqT [(6,3,[]),(8,0,[])]) .leaf)) (.br (7,0,[]) (seqT [(5,0,[]),(6,3,[]),(8,0,[])]) .leaf)) [2] (fun t => [(3, Is (pAt t.1 0))]) (fun t => [ownP (blk v0) 25 [Is (.slice none 0 0), Is (.slice none 0 0)], ownP t.1 25 [TSl 2 Dn.cAva d, Is (slAt (sblk t.2) l.length (scap t.2))], ownA (sblk t.2) (scap t.2) 46 2 En.cAttr l]) rfl rfl rfl (by decide +kernel) (run ?_) ?_
  · exact ⟨fun v1 v2 => Met.at (blk v2, v1) rfl (run trivial) (run trivial), fun v1 v2 => Met.at (blk v2, v1) rfl (run trivial) (run trivial), fun v1 v2 => Met.at (blk v1, v2) rfl (run trivial) (run trivial)⟩
  clear st c1 c2
  rintro ⟨g3, w⟩
  dsimp only
  rw [← ownA_as (f := En.cAttr) (f' := En.cX) En.xOrig (fun _ => rfl) l, ← En.xs_nil]
  have hset : SetF En.cX 1 (fun T : Ty => T) (fun x T => (x.1, T)) := ⟨fun _ _ => rfl⟩
  have pl := Plan.mk' 5 [(0,3,[]),(1,2,[1]),(2,3,[]),(3,3,[]),(4,2,[4]),(6,3,[]),(7,3,[]),(5,0,[0,1,2,3,4]),(8,0,[0,1,3,4,5])]
  have st := Stop.mk' 6
  refine run ?_
  refine HT.loopX (σ := List En.Row) [2, 3, 14, 15] (fun acc => [(16, okI .i64 (acc.length : Int))]) (fun acc => [ownP (blk v0) 25 [Is (.slice none 0 0), Is (.slice none 0 0)], ownP g3 25 [TSl 2 Dn.cAva d, Is (slAt (sblk w) l.length (scap w))], ownA (sblk w) (scap w) 46 2 En.cX (En.xs acc l), famR RV acc]) (fun acc => acc.length ≤ l.length ∧ acc.map En.attrOf = l.take acc.length) (fun acc => l.length - acc.length) [] ⟨Nat.zero_le _, rfl⟩ (To.mk' (is := [[0], [1], [2], []]) (PickX.any 0 rfl (PickX.any 1 rfl (PickX.any 2 rfl (PickX.pack (s := ()) (iss' := []) PickX.nil PickX.nil)))) rfl) (run trivial) ?_
  rintro acc ⟨hi, ha⟩
  have hxl := En.xs_len hi
  by_cases hlt : acc.length < l.length
  · have hx := En.xs_get hlt
    have h4 := h3 _ (En.getD_mem hlt)
    have c3 : CallsC Try.prog 46 [((En.xs acc l).getD acc.length default).2] [] (fun v => Is (slAt (sblk v) (l.getD acc.length default).vals.length (scap v))) (fun v => [ownA (sblk v) (scap v) 9 1 En.cS (l.getD acc.length default).vals]) := by
      rw [hx]; exact txtCloneO _ h4.1 (by omega)
    refine run ?_
    intro v1 v2 _
    rw [hx]
    dsimp only [En.xOrig]
    rw [En.xs_set hlt]
    refine HTs.mk ?_
    clear st
    refine HT.join 3 5 rfl rfl rfl (famR_snoc (R := RV) (⟨(l.getD acc.length default).typ, (l.getD acc.length default).vals, sblk v2, scap v2⟩ : En.Row) acc) ?_
    refine run ?_
    exact HX.roundX (acc ++ [⟨(l.getD acc.length default).typ, (l.getD acc.length default).vals, sblk v2, scap v2⟩]) ⟨⟨by rw [List.length_append, List.length_singleton]; omega, by
      rw [List.map_append, ha, List.length_append, List.length_singleton, List.take_add_one, List.getElem?_eq_getElem hlt, List.getD_eq_getElem?_getD, List.getElem?_eq_getElem hlt]; rfl⟩, by rw [List.length_append, List.length_singleton]; omega⟩ rfl (run trivial) (run trivial)
  · clear st
    rw [En.xs_all (by omega), ownA_as (f := En.cRow) (f' := En.cX) En.xMine (fun _ => rfl) acc]
    have ha' : acc.map En.attrOf = l := by rw [ha, List.take_of_length_le (by omega)]
    refine run ?_
    intro _
    refine HX.finG (Us := [TAgg [TSl 2 Dn.cAva d, Is (slAt (sblk w) l.length (scap w))]]) [[2, 3]] (by first | exact .inl rfl | exact .inr rfl) (by first | (apply ResR.cellA 0 rfl rfl rfl rfl; exact ResR.nil) | (apply ResR.tmp rfl; exact ResR.nil)) (fun G v h => ?_) rfl
    obtain ⟨cs, rfl, hcl, hcc⟩ := h
    match cs, hcl with
    | [x, y], _ =>
      have hy := (hcc 1 _ y rfl rfl).1
      have e : cell1 (.agg [x, y].toArray) = slAt (sblk w) l.length (scap w) := hy
      rw [e, sblk_at, scap_at]
      refine ⟨⟨[x, y], rfl, rfl, hcc⟩, ?_⟩
      exact PickX.pack (s := (⟨acc, ha'⟩ : {rows : List En.Row // rows.map En.attrOf = l})) (iss' := [[2], [3]]) (run trivial) PickX.nil
end Go.Proofs.Ytibabbepnhpaiaa
set_option linter.unusedVariables false
namespace Go.En
open Go.Vk
theorem famR_cons {R : Row → Res} {rows : List Row} {i : Nat} (h : i < rows.length) : famR R (rows.drop i) = packR (fun _ : Unit => [R (rows.getD i default), famR R (rows.drop (i + 1))]) := by
  rw [List.drop_eq_getElem_cons h, List.getD_eq_getElem?_getD, List.getElem?_eq_getElem h]; rfl
def spoilt : List UInt8 := [115, 112, 111, 105, 108, 116]
theorem okD_enc {e : Entry} (h : isN e = true) : okD (encB e) = true := by
  unfold okD
  rw [(dec_back h).1, h, decide_eq_true rfl]; rfl
theorem isN_vals {e : Entry} (h : isN e = true) : ∀ a ∈ e.attrs, 0 < a.vals.length := by
  intro a ha
  unfold isN at h
  simp only [Bool.and_eq_true, List.all_eq_true] at h
  have := h.2 a ha
  unfold okT at this
  simp only [Bool.and_eq_true, decide_eq_true_eq] at this
  omega
theorem encB_len {e : Entry} (h : isN e = true) : (encB e).length ≤ 1000000 := by
  obtain ⟨b1, b2, b3, b4⟩ := isN_bd h
  have k1 := Oct.numB_le (n := e.dn.length) (by omega)
  have k2 := Oct.numB_le (n := e.attrs.length) (by omega)
  have k3 := flat_take (f := avaB) (k := 200) (fun a ha => avaB_len (b2 a ha)) b1 e.dn.length
  have k4 := flat_take (f := attrB) (k := 5000) (fun a ha => attrB_len (b4 a ha)) b3 e.attrs.length
  rw [List.take_length] at k3 k4
  unfold encB
  simp only [List.length_append]
  omega
end Go.En
set_option maxRecDepth 8000
set_option linter.unusedVariables false
namespace Go.Proofs.Ytibabbepnhpaiaa
open Go.Vk
attribute [local irreducible] HT HX RegS RegA RegM OpP OpC AltT
attribute [local irreducible] En.wV En.wAva En.wAt En.wE En.isN En.encB En.okD En.decN
set_option maxHeartbeats 8000000 in
theorem lwBack20 (a : En.Entry) (ha : En.wE a ≤ 1048576) : CFn Try.prog 5 [TAgg (En.cEnt a)] (Is (.bool true)) := by
  have e2 : En.sm En.wE [a] = En.wE a := by unfold En.sm; simp
  have s1 := En.small ha
  have c0 := lwGreat20 [a] (by rw [e2]; omega) (by simp) (fun e he => by
    simp only [List.mem_cons, List.not_mem_nil, or_false] at he
    subst he
    exact ⟨by omega, by omega, fun x hx => by have := s1.2.2.2 x hx; omega⟩)
  rw [e2] at c0
  by_cases hg : 4000 < En.wE a
  · have su := Sure.mk' [16, 17, 18]
    rw [decide_eq_true (by omega)] at c0
    refine CallsC.of Try.call5 Try.func5 rfl Try.ntmps5 rfl fun w0 G0 S0 hs ho => ?_
    exact run trivial
  rw [decide_eq_false (by omega)] at c0
  have hsa := En.small_sane (k := 4000) (e := a) (by omega) (by omega)
  have s3 := En.small (k := 4000) (e := a) (by omega)
  have c4 := rf20Is a hsa
  have su := Sure.mk' [16, 17, 18, 71, 72, 75, 76, 77, 80, 81, 82, 85]
  cases hi : En.isN a with
  | false =>
    rw [hi] at c4
    refine CallsC.of Try.call5 Try.func5 rfl Try.ntmps5 rfl fun w0 G0 S0 hs ho => ?_
    exact run trivial
  | true =>
    rw [hi] at c4
    have c1 := enEncode a hsa
    rw [hi, if_pos rfl, if_pos rfl] at c1
    have c2 := rf20Encode a hsa
    rw [hi, if_pos rfl, if_pos rfl] at c2
    have hel := En.encB_len hi
    have c3 := enDecode (En.encB a) hel
    rw [if_pos (En.okD_enc hi), if_pos (En.okD_enc hi), (En.dec_back hi).1] at c3
    have d2 := rf20Same a a hsa
    rw [decide_eq_true rfl] at d2
    have d4 := lwKnown
    have hv := En.isN_vals hi
    by_cases h0 : 0 < a.attrs.length
    · have c5 := enOwnB a.dn a.attrs h0 (by omega) (by omega) (fun x hx => ⟨hv x hx, by have := s3.2.2.2 x hx; omega⟩)
      have mu := Mut.mk' [31]
      have st := Stop.mk' 6
      refine CallsC.of Try.call5 Try.func5 rfl Try.ntmps5 rfl fun w0 G0 S0 hs ho => ?_
      refine run ?_
      intro v0 v1 v2 _
      refine HTs.mk ?_
      clear st c0 c1 c3 c4 c5 mu
      refine HT.unpack 1 rfl ?_
      rintro ⟨rows, hrows⟩
      dsimp only
      have hrl : rows.length = a.attrs.length := by rw [← hrows, List.length_map]
      have hs0 : SetF En.cRow 0 (fun x : List UInt8 => Is (str x)) (fun r x => { r with typ := x }) := ⟨fun _ _ => rfl⟩
      have hs1 : SetF En.cS 0 (fun x : List UInt8 => Is (str x)) (fun _ x => x) := ⟨fun _ _ => rfl⟩
      have st := Stop.mk' 10
      refine run ?_
      refine HT.loopX (σ := Nat × List En.Row) [1, 2, 3, 4, 5, 6, 7] (fun t => [(8, okI .i64 (t.1 : Int))]) (fun t => [ownP (blk v2) 25 [TSl 2 Dn.cAva a.dn, Is (slAt (sblk (cell1 v1)) a.attrs.length (scap (cell1 v1)))], ownA (sblk (cell1 v1)) (scap (cell1 v1)) 46 2 En.cRow t.2, famR RV (rows.drop t.1), ownP (blk v0) 25 (En.cEnt a)]) (fun t => t.1 ≤ rows.length ∧ t.2.length = rows.length ∧ t.2.drop t.1 = rows.drop t.1) (fun t => rows.length - t.1) (0, rows) ⟨Nat.zero_le _, rfl, rfl⟩ (run trivial) (run trivial) ?_
      rintro ⟨i, X⟩ ⟨hil, hXl, hXd⟩
      dsimp only at hil hXl hXd ⊢
      by_cases hlt : i < rows.length
      · have hXi : X.getD i default = rows.getD i default := by
          have h1 : (X.drop i)[0]? = (rows.drop i)[0]? := by rw [hXd]
          rw [List.getElem?_drop, List.getElem?_drop, Nat.add_zero] at h1
          rw [List.getD_eq_getElem?_getD, List.getD_eq_getElem?_getD, h1]
        refine run ?_
        intro _
        obtain ⟨X', hX'⟩ : ∃ X', X.set i (⟨[115, 112, 111, 105, 108, 116], (X.getD i default).vals, (X.getD i default).g, (X.getD i default).c⟩ : En.Row) = X' := ⟨_, rfl⟩
        have hX1 : X'.getD i default = ⟨[115, 112, 111, 105, 108, 116], (rows.getD i default).vals, (rows.getD i default).g, (rows.getD i default).c⟩ := by
          rw [← hX', List.getD_eq_getElem?_getD, List.getElem?_set, if_pos rfl, if_pos (by omega), ← hXi]; rfl
        have hX2 : X'.drop (i + 1) = rows.drop (i + 1) := by
          rw [← hX', List.drop_set, if_pos (by omega)]
          have := congrArg (List.drop 1) hXd
          rwa [List.drop_drop, List.drop_drop] at this
        have hX3 : X'.length = rows.length := by rw [← hX', List.length_set, hXl]
        have hRV : RV (rows.getD i default) = ownA (X'.getD i default).g (X'.getD i default).c 9 1 En.cS (X'.getD i default).vals := by rw [hX1]
        have hvb : (X'.getD i default).vals.length ≤ 4000 := by
          rw [hX1]
          have h1 : En.attrOf (rows.getD i default) ∈ a.attrs := by
            rw [← hrows]
            exact List.mem_map.2 ⟨_, En.getD_mem hlt, rfl⟩
          exact (s3.2.2.2 _ h1).2
        rw [hX', En.famR_cons hlt, hRV]
        clear hX' hX1 hRV
        refine HTs.mk ?_
        clear st
        refine HT.unpack 2 rfl ?_
        intro _
        refine run ?_
        refine HT.loopX (σ := Nat × List (List UInt8)) [1, 2, 3, 4, 5, 6, 7, 8] (fun t => [(9, okI .i64 (t.1 : Int))]) (fun t => [ownP (blk v2) 25 [TSl 2 Dn.cAva a.dn, Is (slAt (sblk (cell1 v1)) a.attrs.length (scap (cell1 v1)))], ownA (sblk (cell1 v1)) (scap (cell1 v1)) 46 2 En.cRow X', ownA (X'.getD i default).g (X'.getD i default).c 9 1 En.cS t.2, famR RV (rows.drop (i + 1)), ownP (blk v0) 25 (En.cEnt a)]) (fun t => t.1 ≤ (X'.getD i default).vals.length ∧ t.2.length = (X'.getD i default).vals.length) (fun t => (X'.getD i default).vals.length - t.1) (0, (X'.getD i default).vals) ⟨Nat.zero_le _, rfl⟩ (run trivial) (run trivial) ?_
        rintro ⟨k, V⟩ ⟨hkl, hVl⟩
        dsimp only at hkl hVl ⊢
        by_cases hlk : k < (X'.getD i default).vals.length
        · refine run ?_
          intro _
          exact HX.roundX (k + 1, V.set k [115, 112, 111, 105, 108, 116]) ⟨⟨by dsimp only; omega, by dsimp only; rw [List.length_set]; exact hVl⟩, by dsimp only; omega⟩ rfl (run trivial) (run trivial)
        · refine run ?_
          intro _
          exact HX.roundX (i + 1, X') ⟨⟨by dsimp only; omega, hX3, hX2⟩, by dsimp only; omega⟩ rfl (run trivial) (run trivial)
      · clear st
        exact run trivial
    · have c5 : CFn Try.prog 19 [TAgg (En.cEnt a)] (TAgg (En.cEnt a)) := enOwn0 a.dn a.attrs (by omega) (by omega)
      have mu := Mut.mk' [31]
      refine CallsC.of Try.call5 Try.func5 rfl Try.ntmps5 rfl fun w0 G0 S0 hs ho => ?_
      refine run ?_
      intro v0 v1 _
      refine HT.loopX (σ := Unit) [1, 2, 3, 4, 5, 6, 7] (fun t => [(8, okI .i64 0)]) (fun t => [ownP (blk v1) 25 (En.cEnt a), ownP (blk v0) 25 (En.cEnt a)]) (fun _ => True) (fun _ => 0) () trivial (run trivial) (run trivial) ?_
      clear c0 c1 c3 c4 c5 mu
      intro _ _
      exact run trivial
end Go.Proofs.Ytibabbepnhpaiaa
