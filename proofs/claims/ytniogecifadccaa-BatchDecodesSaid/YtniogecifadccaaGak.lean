/-
  The order of texts: laws. Nothing here speaks of a program; no conditions.
  The contract of slices.SortFunc at cells of unlike keys: what comes out is the one row of them whose keys rise.
  The cells that rows make: the plain structures, each key once, rising. Nothing here speaks of a program; no conditions.
  The contract of the program's Cells.
  Arguments as data: from the form's reading of a value to the logic's types, with the bounds that the reach gives. Nothing here speaks of a program; no conditions.
  The contracts of the laws' own functions: heavy and known.
  The law BatchLast.
  The law BatchTurns; rows as arguments.
-/
import Derived.Test.YtniogecifadccaaGaj
import Derived.Test.YtniogecifadccaaGaa
import Derived.Shelf.SlSortCmp.NoneTotal
import Derived.Test.YtniogecifadccaaGah
import Derived.ProofKit
import Derived.OpenShut
import Derived.ShutString
import Derived.ChangeOld
import Derived.Below
import Derived.Carry
import Derived.SizedLaws
set_option linter.unusedSimpArgs false
set_option linter.unusedVariables false
set_option linter.unusedVariables false
namespace Go.Vk
theorem sless_nil (l : List UInt8) : sless l [] = false := by cases l <;> rfl
theorem sless_cons (a b : UInt8) (x y : List UInt8) : sless (a :: x) (b :: y) = (decide (a < b) || (a == b && sless x y)) := by
  show Op.bytesLess (a :: x) (b :: y) = _
  rw [Op.bytesLess]
theorem sless_irrefl : ∀ l : List UInt8, sless l l = false
  | [] => rfl
  | a :: l => by
    rw [sless_cons, sless_irrefl l]
    simp [UInt8.lt_irrefl]
theorem sless_iff {a b : UInt8} {x y : List UInt8} : sless (a :: x) (b :: y) = true ↔ a.toNat < b.toNat ∨ (a = b ∧ sless x y = true) := by
  rw [sless_cons]
  simp [UInt8.lt_iff_toNat_lt]
theorem sless_trans : ∀ {a b c : List UInt8}, sless a b = true → sless b c = true → sless a c = true
  | _, [], _, h, _ => by rw [sless_nil] at h; cases h
  | _, _ :: _, [], _, h => by rw [sless_nil] at h; cases h
  | [], _ :: _, _ :: _, _, _ => rfl
  | a :: x, b :: y, c :: z, h, k => by
    rw [sless_iff] at *
    rcases h with h | ⟨rfl, h⟩ <;> rcases k with k | ⟨rfl, k⟩
    · left; omega
    · left; exact h
    · left; exact k
    · right; exact ⟨rfl, sless_trans h k⟩
theorem sless_asymm {a b : List UInt8} (h : sless a b = true) : sless b a = false := by
  cases hb : sless b a with
  | false => rfl
  | true => have := sless_trans h hb; rw [sless_irrefl] at this; cases this
theorem sless_total : ∀ a b : List UInt8, sless a b = true ∨ a = b ∨ sless b a = true
  | [], [] => .inr (.inl rfl)
  | [], _ :: _ => .inl rfl
  | _ :: _, [] => .inr (.inr rfl)
  | a :: x, b :: y => by
    rw [sless_iff, sless_iff]
    rcases Nat.lt_trichotomy a.toNat b.toNat with h | h | h
    · exact .inl (.inl h)
    · have h' := UInt8.toNat_inj.1 h
      subst h'
      rcases sless_total x y with h | rfl | h
      · exact .inl (.inr ⟨rfl, h⟩)
      · exact .inr (.inl rfl)
      · exact .inr (.inr (.inr ⟨rfl, h⟩))
    · exact .inr (.inr (.inl h))
/-- Not above. -/
def sle (a b : List UInt8) : Bool := !sless b a
theorem sle_eq (a b : List UInt8) : (sless a b || a == b) = sle a b := by
  unfold sle
  rcases sless_total a b with h | rfl | h
  · rw [h, sless_asymm h]; rfl
  · rw [sless_irrefl]; simp
  · rw [h, sless_asymm h]
    simp
    intro e; subst e; rw [sless_irrefl] at h; cases h
theorem sgt_eq (a b : List UInt8) : (!(sless a b || a == b)) = sless b a := by rw [sle_eq]; unfold sle; simp
theorem sle_refl (a : List UInt8) : sle a a = true := by unfold sle; rw [sless_irrefl]; rfl
theorem sle_of_lt {a b : List UInt8} (h : sless a b = true) : sle a b = true := by unfold sle; rw [sless_asymm h]; rfl
theorem sle_iff {a b : List UInt8} : sle a b = true ↔ sless b a = false := by unfold sle; simp
theorem sle_cases {a b : List UInt8} (h : sle a b = true) : sless a b = true ∨ a = b := by
  rcases sless_total a b with h1 | h1 | h1
  · exact .inl h1
  · exact .inr h1
  · rw [sle_iff, h1] at h; cases h
theorem sle_trans {a b c : List UInt8} (h : sle a b = true) (k : sle b c = true) : sle a c = true := by
  rcases sle_cases h with h | rfl
  · rcases sle_cases k with k | rfl
    · exact sle_of_lt (sless_trans h k)
    · exact sle_of_lt h
  · exact k
theorem sle_lt {a b c : List UInt8} (h : sle a b = true) (k : sless b c = true) : sless a c = true := by
  rcases sle_cases h with h | rfl
  · exact sless_trans h k
  · exact k
theorem lt_sle {a b c : List UInt8} (h : sless a b = true) (k : sle b c = true) : sless a c = true := by
  rcases sle_cases k with k | rfl
  · exact sless_trans h k
  · exact h
theorem sle_antisymm {a b : List UInt8} (h : sle a b = true) (k : sle b a = true) : a = b := by
  rcases sle_cases h with h | h
  · rw [sle_iff, h] at k; cases k
  · exact h
end Go.Vk
set_option linter.unusedVariables false
namespace Go.Ba
open Go.Vk Go.Sort Go.Proofs
theorem cmpB_neg : ∀ a b : List UInt8, Lib.compareBytes a b < 0 ↔ sless a b = true
  | [], [] => ⟨fun h => absurd h (by decide), fun h => by cases h⟩
  | [], b :: l => ⟨fun _ => rfl, fun _ => by unfold Lib.compareBytes; decide⟩
  | a :: l, [] => ⟨fun h => absurd h (by unfold Lib.compareBytes; decide), fun h => by rw [sless_nil] at h; cases h⟩
  | a :: l, b :: m => by
    rw [sless_iff]
    unfold Lib.compareBytes
    by_cases h : a < b
    · rw [if_pos h]
      exact ⟨fun _ => .inl h, fun _ => by omega⟩
    · rw [if_neg h]
      by_cases h2 : b < a
      · rw [if_pos h2]
        have h3 : b.toNat < a.toNat := h2
        refine ⟨fun k => by omega, fun k => ?_⟩
        rcases k with k | ⟨k, _⟩
        · omega
        · subst k; omega
      · rw [if_neg h2, cmpB_neg l m]
        have e : a = b := UInt8.toNat_inj.1 (by
          have h3 : ¬ a.toNat < b.toNat := h
          have h4 : ¬ b.toNat < a.toNat := h2
          omega)
        exact ⟨fun k => .inr ⟨e, k⟩, fun k => by
          rcases k with k | k
          · exact (h k).elim
          · exact k.2⟩
theorem lt_eq (x y : Cell) : ltOf cmpK x y = sless x.key y.key := by
  unfold ltOf cmpK
  rw [Bool.eq_iff_iff, decide_eq_true_eq]
  exact cmpB_neg _ _
theorem cmpK_swo : SWO (ltOf cmpK) where
  irrefl x := by rw [lt_eq]; exact sless_irrefl _
  trans x y z h1 h2 := by rw [lt_eq] at *; exact sless_trans h1 h2
  ntrans x y z h1 h2 := by
    rw [lt_eq] at *
    cases h : sless x.key z.key with
    | false => rfl
    | true =>
      rcases sless_total x.key y.key with k | k | k
      · rw [h1] at k; cases k
      · rw [k] at h; rw [h] at h2; cases h2
      · rw [sless_trans k h] at h2; cases h2
theorem flatV {β : Type} {f : Cell → List β} {sz : Nat} : ∀ {l : List Cell} {i : Nat} {a : Cell} {j : Nat} {T : β}, (∀ a ∈ l, (f a).length = sz) → l[i]? = some a → (f a)[j]? = some T → (l.flatMap f)[i * sz + j]? = some T
  | [], i, a, j, T, _, hi, _ => by simp at hi
  | b :: l, 0, a, j, T, hl, hi, hj => by
    simp at hi; subst hi
    rw [List.flatMap_cons, List.getElem?_append_left (by have := (List.getElem?_eq_some_iff.1 hj).1; omega), Nat.zero_mul, Nat.zero_add]
    exact hj
  | b :: l, i + 1, a, j, T, hl, hi, hj => by
    have hb := hl b (by simp)
    rw [List.flatMap_cons, List.getElem?_append_right (by rw [hb, Nat.succ_mul]; omega), hb]
    have := flatV (l := l) (fun a ha => hl a (by simp [ha])) (by simpa using hi) hj
    rw [← this]
    congr 1
    rw [Nat.succ_mul]; omega
theorem flatC_len (l : List Cell) : (l.flatMap encC).length = l.length * 4 := by
  induction l with
  | nil => rfl
  | cons a l ih => rw [List.flatMap_cons, List.length_append, ih, encC_len, List.length_cons]; omega
theorem flatT (l : List Cell) : l.flatMap cCell = (l.flatMap encC).map Is := by
  induction l with
  | nil => rfl
  | cons a l ih => rw [List.flatMap_cons, List.flatMap_cons, List.map_append, ih, cCell_enc]
/-- The flat row's cells are the cells one behind the other. -/
theorem flatK_at (l : List Cell) {t : Nat} (h : t < l.length * 4) : (l.flatMap encC)[t]? = some (flatK encC 4 l.toArray)[t]! := by
  have h1 : t / 4 < l.length := by omega
  rw [get_flatK encC 4 l.toArray t (by simpa using h)]
  have e : (l.toArray)[t / 4]! = l[t / 4] := by simp [h1]
  rw [e]
  have h2 : t % 4 < (encC l[t / 4]).length := by rw [encC_len]; omega
  have := flatV (l := l) (f := encC) (sz := 4) (i := t / 4) (j := t % 4) (fun a _ => encC_len a) (List.getElem?_eq_getElem h1) (List.getElem?_eq_getElem h2)
  rw [show t / 4 * 4 + t % 4 = t by omega] at this
  rw [this]
  congr 1
  exact (getElem!_pos (encC l[t / 4]) (t % 4) h2).symm
theorem perm_of {d d' : Array Cell} {n : Nat} (hn : n = d.size) (h : PermIn 0 n d d') : d'.toList.Perm d.toList := by
  obtain ⟨h1, _, h3⟩ := h
  subst hn
  have e1 : d.extract 0 d.size = d := by simp
  have e2 : d'.extract 0 d.size = d' := by rw [← h1]; simp
  rwa [e1, e2] at h3
theorem sorted_one {dl : List Cell} {d d' : Array Cell} {n : Nat} (hn : n = d.size) (hp : PermIn 0 n d d') (hs : SortedIn (ltOf cmpK) 0 n d') (hd : dl.Perm d.toList) (hr : dl.Pairwise fun a b => sless a.key b.key = true) : d' = dl.toArray := by
  have hq := perm_of hn hp
  have hsz := hp.1
  have hw : d'.toList.Pairwise fun a b => sless b.key a.key = false := by
    rw [List.pairwise_iff_getElem]
    intro i j hi hj hij
    have := hs i j (Nat.zero_le _) hij (by simp at hj; omega)
    rw [lt_eq] at this
    simp only [Array.length_toList] at hi hj
    rw [getElem!_pos d' i hi, getElem!_pos d' j hj] at this
    simpa using this
  have hrw : dl.Pairwise fun a b => sless b.key a.key = false := hr.imp fun h => sless_asymm h
  have : d'.toList = dl := by
    refine List.Perm.eq_of_pairwise (le := fun a b => sless b.key a.key = false) ?_ hw hrw (hq.trans hd.symm)
    intro a b h1 h2 h3 h4
    have h1' : a ∈ dl := (hq.trans hd.symm).mem_iff.1 h1
    obtain ⟨i, hi, e1⟩ := List.getElem_of_mem h1'
    obtain ⟨j, hj, e2⟩ := List.getElem_of_mem h2
    rcases Nat.lt_trichotomy i j with k | k | k
    · have := List.pairwise_iff_getElem.1 hr i j hi hj k
      rw [e1, e2, h4] at this; cases this
    · subst k; rw [← e1, ← e2]
    · have := List.pairwise_iff_getElem.1 hr j i hj hi k
      rw [e1, e2, h3] at this; cases this
  rw [← this]
end Go.Ba
namespace Go.Proofs.Ytniogecifadccaa
open Go.Vk Go.Sort Go.Proofs Go.Lib Go.RowKit
theorem putCells_size (F cs : Array Value) : (putCells id 0 F cs).size = cs.size := by unfold putCells; simp
theorem baSortV (g c : Nat) (l d : List Ba.Cell) (hl : l.length ≤ 100000) (hp : d.Perm l) (hs : d.Pairwise fun a b => sless a.key b.key = true) (vs : List Value) (w : World) (G : Imm) (S : Nat → Nat → Prop) (hsat : Sat G w) (ho : Owns S [ownA g c 27 4 Ba.cCell l] G w) :
    Calls Try.prog 21 #[.slice (some ⟨g, 0, none⟩) l.length c, .func (.func 22) #[] #[]] w fun e w' => e = .returned (.tuple #[]) ∧ Ext (fun b => ∃ i, S i b) G w G w' ∧ Owns S [ownA g c 27 4 Ba.cCell d] G w' := by
  obtain ⟨hf, hlc, hcm, rest, hlen, hS, ⟨cs, hheap, hcs, hv⟩, hfree⟩ := ho.res 0 _ rfl
  have hgS : S 0 g := (hS g).2 rfl
  have hgb := ho.bound 0 g hgS
  have eg : ∀ args w, (callFunc 22 args).run Try.prog w = .ok (.enter 22 args) w := enters_of Try.func22 (by kernel_rfl) rfl
  have hcell : ∀ t, t < l.length * 4 → cs[t]? = some ((flatK Ba.encC 4 l.toArray)[t]!) := fun t ht => by
    have h1 := Ba.flatK_at l ht
    have h2 : (l.flatMap Ba.cCell ++ rest)[t]? = some (Is ((flatK Ba.encC 4 l.toArray)[t]!)) := by
      rw [List.getElem?_append_left (by rw [Ba.flatT, List.length_map, Ba.flatC_len]; exact ht), Ba.flatT, List.getElem?_map, h1]; rfl
    obtain ⟨u, hu, hT, _⟩ := hv t _ h2
    cases hT
    exact hu
  have hH : HoldsK Ba.encC 4 w g 0 l.toArray := fun j hj => by
    rw [size_flatK] at hj
    have h1 := hcell j (by simpa using hj)
    constructor
    · simp only [World.cell?, hheap, Nat.zero_add]
      simpa using h1
    · simp [World.frozen?, hheap]
  have hcon := AnyQ.slices_SortFunc Try.sortCell 4 Try.isAgg27 Try.sizeOf27 Ba.encC Ba.encC_len Ba.encC_one Ba.cmpK Ba.cmpK_swo 22 #[] g 0 c l.toArray w eg (fun m os dk _ x y => baCells1 x y _) hH hgb (by simp; omega)
  change Calls Try.prog 21 _ _ _ at hcon
  rw [show (l.toArray).size = l.length by simp] at hcon
  refine hcon.mono ?_
  rintro e w' ⟨rfl, d', n, os, hpi, hsi, rfl⟩
  have hd' : d' = d.toArray := Ba.sorted_one (by simp) hpi hsi (by simpa using hp) hs
  subst hd'
  have hdl : d.length = l.length := hp.length_eq
  have hsizeE : w.heap.size ≤ (sortWorldK Ba.encC 4 w g 0 n d.toArray os).heap.size := by
    simp [sortWorldK, grow, putRowK, putRow, mapBlock, Sort.ahead]
  have hheapE : ∀ b, b < w.heap.size → (sortWorldK Ba.encC 4 w g 0 n d.toArray os).heap[b]? = if b = g then (w.heap[g]?).map (onCells (putCells id 0 (flatK Ba.encC 4 d.toArray))) else w.heap[b]? := fun b hb => by
    simp only [sortWorldK, grow, putRowK, putRow, mapBlock, Sort.ahead]
    rw [Array.getElem?_append_left (by simpa using hb), Array.getElem?_modify]
    by_cases e : g = b
    · rw [if_pos e, if_pos e.symm, e]
    · rw [if_neg e, if_neg (fun k => e k.symm)]
  refine ⟨rfl, ?_, ?_⟩
  · refine ⟨fun b o v hb => ?_, Imm.le.refl G, rfl, rfl, rfl, ?_, fun b hb hz => ?_⟩
    · have hbg : b ≠ g := fun e => by subst e; rw [hfree] at hb; cases hb
      have h1 := hsat b o v hb
      have h2 := hsat.lt hb
      simp only [World.cell?] at h1 ⊢
      rw [hheapE b h2, if_neg hbg]
      exact h1
    · exact hsizeE
    · have hbg : b ≠ g := fun e => hz ⟨0, by rw [e]; exact hgS⟩
      exact ⟨by rw [hheapE b hb, if_neg hbg], fun o => rfl⟩
  · refine ⟨fun i b hb => Nat.lt_of_lt_of_le (ho.bound i b hb) hsizeE, ho.disj, ho.inL, fun i r hr => ?_⟩
    cases i with
    | succ i => simp at hr
    | zero =>
      simp only [List.getElem?_cons_zero, Option.some.injEq] at hr
      subst hr
      refine ⟨fun a _ => rfl, by rw [hdl]; exact hlc, hcm, rest, ?_, hS, ⟨_, by rw [hheapE g hgb, if_pos rfl, hheap]; rfl, ?_, ?_⟩, hfree⟩
      · rw [List.length_append, Ba.flatT, List.length_map, Ba.flatC_len] at hlen ⊢
        rw [hdl]; exact hlen
      · rw [putCells_size, hcs]
        simp only [List.length_append, Ba.flatT, List.length_map, Ba.flatC_len, hdl]
      · intro j T hT
        have hjl := (List.getElem?_eq_some_iff.1 hT).1
        simp only [List.length_append, Ba.flatT, List.length_map, Ba.flatC_len] at hjl
        have hcl : cs.size = l.length * 4 + rest.length := by rw [hcs]; simp only [List.length_append, Ba.flatT, List.length_map, Ba.flatC_len]
        have hput : (putCells id 0 (flatK Ba.encC 4 d.toArray) cs)[j]? = (cs[j]?).map fun x => if j < d.length * 4 then (flatK Ba.encC 4 d.toArray)[j]! else x := by
          unfold putCells
          rw [Array.getElem?_mapIdx]
          simp
        rw [hput]
        by_cases hj : j < d.length * 4
        · have h1 := Ba.flatK_at d hj
          have h2 : T = Is ((flatK Ba.encC 4 d.toArray)[j]!) := by
            rw [List.getElem?_append_left (by rw [Ba.flatT, List.length_map, Ba.flatC_len]; exact hj), Ba.flatT, List.getElem?_map, h1] at hT
            cases hT; rfl
          subst h2
          have h3 : j < cs.size := by omega
          refine ⟨_, by rw [Array.getElem?_eq_getElem h3, Option.map_some, if_pos hj], rfl, ?_⟩
          have hm := List.mem_of_getElem? h1
          rw [List.mem_flatMap] at hm
          obtain ⟨a, _, ha⟩ := hm
          exact Ba.encC_one a _ ha
        · have h2 : (l.flatMap Ba.cCell ++ rest)[j]? = some T := by
            rw [List.getElem?_append_right (by rw [Ba.flatT, List.length_map, Ba.flatC_len]; omega), Ba.flatT, List.length_map, Ba.flatC_len] at hT ⊢
            rw [← hdl]; exact hT
          obtain ⟨u, hu, hT', h1c⟩ := hv j T h2
          exact ⟨u, by rw [hu, Option.map_some, if_neg hj], hT', h1c⟩
end Go.Proofs.Ytniogecifadccaa
set_option linter.unusedVariables false
namespace Go.Ba
open Go.Vk
structure Row where
  key : List UInt8
  val : List UInt8
  del : Bool
deriving DecidableEq
instance : Inhabited Row := ⟨⟨[], [], false⟩⟩
def cRow (r : Row) : List Ty := [Is (str r.key), Is (str r.val), Is (.bool r.del)]
def Okr (r : Row) : Prop := r.key.length ≤ 140737488351232 ∧ r.val.length ≤ 140737488351232
def cellF (seq : Int) (r : Row) : Cell := ⟨r.key, r.val, r.del, seq⟩
def insD (c : Cell) : List Cell → List Cell
  | [] => [c]
  | d :: t => if sless d.key c.key = true then d :: insD c t else if d.key = c.key then d :: t else c :: d :: t
def cellsF (seq : Int) : List Row → List Cell
  | [] => []
  | r :: t => insD (cellF seq r) (cellsF seq t)
def lastR : List Row → List Row
  | [] => []
  | r :: t => if (t.any fun x => decide (x.key = r.key)) = true then lastR t else r :: lastR t
theorem mem_insD {c x : Cell} : ∀ {out : List Cell}, x ∈ insD c out → x = c ∨ x ∈ out
  | [], h => by rw [insD, List.mem_singleton] at h; exact .inl h
  | d :: t, h => by
    rw [insD] at h
    split at h
    · rcases List.mem_cons.1 h with h | h
      · exact .inr (List.mem_cons.2 (.inl h))
      · rcases mem_insD h with h | h
        · exact .inl h
        · exact .inr (List.mem_cons_of_mem _ h)
    · split at h
      · exact .inr h
      · rcases List.mem_cons.1 h with h | h
        · exact .inl h
        · exact .inr h
/-- Rising keys. -/
def Up (l : List Cell) : Prop := l.Pairwise fun a b => sless a.key b.key = true
theorem Up.ins {c : Cell} : ∀ {out : List Cell}, Up out → Up (insD c out)
  | [], _ => List.pairwise_singleton _ _
  | d :: t, h => by
    have h1 := List.pairwise_cons.1 h
    rw [insD]
    split
    · rename_i k
      refine List.pairwise_cons.2 ⟨fun x hx => ?_, Up.ins h1.2⟩
      rcases mem_insD hx with rfl | hx
      · exact k
      · exact h1.1 x hx
    · rename_i k
      split
      · exact h
      · rename_i e
        have hlt : sless c.key d.key = true := by
          rcases sless_total d.key c.key with q | q | q
          · exact (k q).elim
          · exact (e q).elim
          · exact q
        refine List.pairwise_cons.2 ⟨fun x hx => ?_, h⟩
        rcases List.mem_cons.1 hx with rfl | hx
        · exact hlt
        · exact sless_trans hlt (h1.1 x hx)
theorem cells_up (seq : Int) : ∀ l : List Row, Up (cellsF seq l)
  | [] => List.Pairwise.nil
  | r :: t => (cells_up seq t).ins
theorem ins_have {c : Cell} : ∀ {out : List Cell}, Up out → (∃ d ∈ out, d.key = c.key) → insD c out = out
  | [], _, ⟨d, hd, _⟩ => by cases hd
  | e :: t, h, ⟨d, hd, hk⟩ => by
    have h1 := List.pairwise_cons.1 h
    rw [insD]
    rcases List.mem_cons.1 hd with rfl | hd
    · rw [hk, sless_irrefl, if_neg (by simp), if_pos rfl]
    · have := h1.1 d hd
      rw [hk] at this
      rw [if_pos this, ins_have h1.2 ⟨d, hd, hk⟩]
theorem ins_new {c : Cell} : ∀ {out : List Cell}, (¬ ∃ d ∈ out, d.key = c.key) → (insD c out).Perm (c :: out)
  | [], _ => List.Perm.refl _
  | e :: t, h => by
    rw [insD]
    split
    · refine ((ins_new fun ⟨d, hd, hk⟩ => h ⟨d, List.mem_cons_of_mem _ hd, hk⟩).cons e).trans ?_
      exact List.Perm.swap _ _ _
    · split
      · rename_i k
        exact (h ⟨e, List.mem_cons_self .., k⟩).elim
      · exact List.Perm.refl _
theorem cells_keys (seq : Int) (k : List UInt8) : ∀ l : List Row, (∃ d ∈ cellsF seq l, d.key = k) ↔ ∃ r ∈ l, r.key = k
  | [] => by simp [cellsF]
  | r :: t => by
    have ih := cells_keys seq k t
    rw [cellsF]
    by_cases h : ∃ d ∈ cellsF seq t, d.key = (cellF seq r).key
    · rw [ins_have (cells_up seq t) h]
      constructor
      · intro q
        obtain ⟨x, hx, e⟩ := ih.1 q
        exact ⟨x, List.mem_cons_of_mem _ hx, e⟩
      · rintro ⟨x, hx, e⟩
        rcases List.mem_cons.1 hx with rfl | hx
        · obtain ⟨d, hd, e2⟩ := h
          exact ⟨d, hd, by rw [e2]; exact e⟩
        · exact ih.2 ⟨x, hx, e⟩
    · have hp := ins_new h
      constructor
      · rintro ⟨d, hd, e⟩
        rcases List.mem_cons.1 (hp.mem_iff.1 hd) with rfl | hd
        · exact ⟨r, List.mem_cons_self .., e⟩
        · obtain ⟨x, hx, e2⟩ := ih.1 ⟨d, hd, e⟩
          exact ⟨x, List.mem_cons_of_mem _ hx, e2⟩
      · rintro ⟨x, hx, e⟩
        rcases List.mem_cons.1 hx with rfl | hx
        · exact ⟨_, hp.mem_iff.2 (List.mem_cons_self ..), e⟩
        · obtain ⟨d, hd, e2⟩ := ih.2 ⟨x, hx, e⟩
          exact ⟨d, hp.mem_iff.2 (List.mem_cons_of_mem _ hd), e2⟩
theorem cells_perm (seq : Int) : ∀ l : List Row, (cellsF seq l).Perm ((lastR l).map (cellF seq))
  | [] => List.Perm.refl _
  | r :: t => by
    have ih := cells_perm seq t
    rw [cellsF, lastR]
    by_cases h : (t.any fun x => decide (x.key = r.key)) = true
    · rw [if_pos h]
      rw [ins_have (cells_up seq t) ?_]
      · exact ih
      · rw [List.any_eq_true] at h
        obtain ⟨x, hx, e⟩ := h
        exact (cells_keys seq r.key t).2 ⟨x, hx, of_decide_eq_true e⟩
    · rw [if_neg h, List.map_cons]
      refine (ins_new fun q => h ?_).trans (ih.cons _)
      obtain ⟨x, hx, e⟩ := (cells_keys seq r.key t).1 q
      rw [List.any_eq_true]
      exact ⟨x, hx, decide_eq_true e⟩
theorem lastR_len : ∀ l : List Row, (lastR l).length ≤ l.length
  | [] => Nat.le_refl _
  | r :: t => by
    have := lastR_len t
    rw [lastR]
    split <;> simp only [List.length_cons] <;> omega
theorem cells_len (seq : Int) (l : List Row) : (cellsF seq l).length ≤ l.length := by
  rw [(cells_perm seq l).length_eq, List.length_map]; exact lastR_len l
/-- Does no later row have the key of this one? -/
def keep (l : List Row) (i : Nat) : Bool := !((l.drop (i + 1)).any fun r => decide (r.key = (l.getD i default).key))
theorem keep_iff {l : List Row} {i : Nat} : keep l i = true ↔ ∀ j, i < j → j < l.length → (l.getD j default).key ≠ (l.getD i default).key := by
  unfold keep
  rw [Bool.not_eq_true', List.any_eq_false]
  constructor
  · intro h j h1 h2 e
    refine h (l.getD j default) ?_ (decide_eq_true e)
    rw [List.getD_eq_getElem?_getD, List.getElem?_eq_getElem h2, Option.getD_some]
    exact List.mem_drop_iff_getElem.2 ⟨j - (i + 1), by omega, by congr 1; omega⟩
  · intro h x hx e
    obtain ⟨j, hj, e2⟩ := List.mem_drop_iff_getElem.1 hx
    refine h (i + 1 + j) (by omega) (by omega) ?_
    rw [List.getD_eq_getElem?_getD (i := i + 1 + j), List.getElem?_eq_getElem (by omega), Option.getD_some, e2]
    exact of_decide_eq_true e
/-- The rows that are kept among the first. -/
def someC (seq : Int) (l : List Row) (i : Nat) : List Cell := ((List.range i).filter (keep l)).map fun j => cellF seq (l.getD j default)
theorem some_yes {seq : Int} {l : List Row} {i : Nat} (h : keep l i = true) : someC seq l i ++ [cellF seq (l.getD i default)] = someC seq l (i + 1) := by
  unfold someC
  rw [List.range_succ, List.filter_append, List.map_append]
  simp [h]
theorem some_no {seq : Int} {l : List Row} {i : Nat} (h : keep l i = false) : someC seq l i = someC seq l (i + 1) := by
  unfold someC
  rw [List.range_succ, List.filter_append, List.map_append]
  simp [h]
theorem some_len (seq : Int) (l : List Row) (i : Nat) : (someC seq l i).length ≤ i := by
  unfold someC
  rw [List.length_map]
  have := List.length_filter_le (keep l) (List.range i)
  rwa [List.length_range] at this
theorem keep_succ (r : Row) (t : List Row) (i : Nat) : keep (r :: t) (i + 1) = keep t i := rfl
theorem some_all (seq : Int) : ∀ l : List Row, someC seq l l.length = (lastR l).map (cellF seq)
  | [] => rfl
  | r :: t => by
    have ih := some_all seq t
    have h0 : keep (r :: t) 0 = !(t.any fun x => decide (x.key = r.key)) := rfl
    unfold someC at ih ⊢
    rw [List.length_cons, List.range_succ_eq_map, List.filter_cons, lastR, List.filter_map, h0]
    have e1 : (keep (r :: t) ∘ Nat.succ) = keep t := by funext i; exact keep_succ r t i
    rw [e1]
    have e2 : ∀ l' : List Nat, (l'.map Nat.succ).map (fun j => cellF seq ((r :: t).getD j default)) = l'.map fun j => cellF seq (t.getD j default) := fun l' => by
      rw [List.map_map]; rfl
    cases h : t.any fun x => decide (x.key = r.key) with
    | true => simp only [Bool.not_true, Bool.false_eq_true, if_false, if_true]; rw [e2]; exact ih
    | false => simp only [Bool.not_false, Bool.false_eq_true, if_false, if_true, List.map_cons]; rw [e2, ih]; rfl
/-! ### the last place of each key -/
noncomputable def lastIx (l : List Row) : Nat → Lit → Int
  | 0 => fun _ => 0
  | n + 1 => updM (lastIx l n) (.string (l.getD n default).key) (n : Int)
theorem lastIx_succ (l : List Row) (n : Nat) : updM (lastIx l n) (.string (l.getD n default).key) (n : Int) = lastIx l (n + 1) := rfl
theorem lastIx_at {l : List Row} {i : Nat} : ∀ n, i < n → (lastIx l n (.string (l.getD i default).key) = (i : Int) ↔ ∀ j, i < j → j < n → (l.getD j default).key ≠ (l.getD i default).key)
  | 0, h => by omega
  | n + 1, h => by
    rw [← lastIx_succ]
    by_cases e : i = n
    · subst e
      rw [updM_same]
      exact ⟨fun _ j h1 h2 => by omega, fun _ => rfl⟩
    · by_cases k : (l.getD n default).key = (l.getD i default).key
      · rw [k, updM_same]
        exact ⟨fun q => by omega, fun q => (q n (by omega) (by omega) k).elim⟩
      · rw [updM_ne (fun q => k (Lit.string.inj q).symm), lastIx_at n (by omega)]
        constructor
        · intro q j h1 h2
          rcases (by omega : j < n ∨ j = n) with h3 | rfl
          · exact q j h1 h3
          · exact k
        · intro q j h1 h2; exact q j h1 (by omega)
theorem lastIx_keep {l : List Row} {i : Nat} (h : i < l.length) : lastIx l l.length (.string (l.getD i default).key) = (i : Int) ↔ keep l i = true := by
  rw [lastIx_at l.length h, keep_iff]
end Go.Ba
set_option maxRecDepth 8000
set_option linter.unusedVariables false
namespace Go.Proofs.Ytniogecifadccaa
open Go.Vk
attribute [local irreducible] HT HX RegS RegA RegM OpP OpC AltT
theorem baSort (u : Value) (l d : List Ba.Cell) (hl : l.length ≤ 100000) (hp : d.Perm l) (hs : d.Pairwise fun a b => sless a.key b.key = true) : CallsC Try.prog 21 [Is u, TFn 22 []] [ownR u 27 4 Ba.cCell l] (fun _ => TTup []) (fun _ => [ownR u 27 4 Ba.cCell d]) :=
  ⟨enters_of Try.func21 (by kernel_rfl) rfl, fun vs w G S hsat ho ha => by
    match vs, ha with
    | [v0, v1], ⟨h0, ⟨cb, h1, h2⟩, _⟩ =>
      have hcb : cb = [] := by
        cases cb with
        | nil => rfl
        | cons a b => exact h2.elim
      subst hcb
      have h0' : v0 = u := h0
      subst h0'
      subst h1
      rcases ho.res 0 _ rfl with ⟨e1, e2, e3⟩ | ⟨g, c, e1, h⟩
      · subst e1 e2
        have hd : d = [] := List.Perm.eq_nil hp
        subst hd
        have hcon := AnyF.slices_SortFunc_none Try.sortCell none 0 (.func (.func 22) #[] #[]) w
        refine hcon.mono ?_
        rintro e w' ⟨rfl, rfl⟩
        exact ⟨.tuple #[], G, S, rfl, Ext.refl hsat, ho, fun i b hb => .inr ⟨i, hb⟩, ⟨[], rfl, rfl, fun j T u h1 h2 => by simp at h1⟩⟩
      · rw [slAt_def] at e1
        subst e1
        have ho2 : Owns S [ownA g c 27 4 Ba.cCell l] G w := by
          have := ho.put (k := 0) (R' := ownA g c 27 4 Ba.cCell l) rfl h
          exact this
        refine (baSortV g c l d hl hp hs [] w G S hsat ho2).mono ?_
        rintro e w' ⟨rfl, hext, ho3⟩
        refine ⟨.tuple #[], G, S, rfl, hext, ?_, fun i b hb => .inr ⟨i, hb⟩, ⟨[], rfl, rfl, fun j T u h1 h2 => by simp at h1⟩⟩
        have hd := hp.length_eq
        exact ho3.put (k := 0) (R' := ownR (.slice (some ⟨g, 0, none⟩) l.length c) 27 4 Ba.cCell d) rfl (.inr ⟨g, c, by rw [slAt_def, hd], ho3.res 0 _ rfl⟩)⟩
theorem baCell (r : Ba.Row) (n : Int) : CFn Try.prog 20 [TAgg (Ba.cRow r), okI .i64 n] (TAgg (Ba.cCell (Ba.cellF n r))) := by
  refine CallsC.of Try.call20 Try.func20 rfl Try.ntmps20 rfl fun w0 G0 S0 hs ho => ?_
  refine run ?_
  and_intros <;> intros <;> rfl
attribute [local irreducible] Ba.lastIx Ba.someC Ba.keep Ba.cellsF
set_option maxHeartbeats 4000000 in
theorem baCellsR (l : List Ba.Row) (n : Int) (hl : l.length ≤ 100000) (hk : ∀ i, i < l.length → Ba.Okr (l.getD i default)) : CallsC Try.prog 10 [TSl 3 Ba.cRow l, okI .i64 n] [] (fun u => Is u) (fun u => [ownR u 27 4 Ba.cCell (Ba.cellsF n l)]) := by
  have c1 := baCell
  have hkd : Go.Maps.Keyed Try.prog 9 := Go.Maps.string_keyed Try.underlying9
  have mk := MkMap.mk' 11 (fun n : Int => okI .i64 n) (0 : Int)
  refine CallsC.of Try.call10 Try.func10 rfl Try.ntmps10 rfl fun w0 G0 S0 hs ho => ?_
  refine run ?_
  intro v0
  refine HT.loopX (σ := Nat × (Lit → Int)) [0, 1, 4, 5, 12, 13] (fun t => [(14, okI .i64 (t.1 : Int))]) (fun t => [ownMp Try.prog 9 3 (mblk v0) t.1 (fun n : Int => okI .i64 n) t.2]) (fun t => t.1 ≤ l.length ∧ t.2 = Ba.lastIx l t.1) (fun t => l.length - t.1) (0, fun _ => 0) ⟨Nat.zero_le _, by unfold Ba.lastIx; rfl⟩ (run trivial) (run trivial) ?_
  rintro ⟨i, m⟩ ⟨hi, hm⟩
  dsimp only at hi hm ⊢
  by_cases hlt : i < l.length
  · have hki := (hk i hlt).1
    refine run ?_
    intro _ _
    exact HX.roundX (i + 1, updM m (.string (l.getD i default).key) (i : Int)) ⟨⟨by dsimp only; omega, by dsimp only; rw [hm, Ba.lastIx_succ]⟩, by dsimp only; omega⟩ rfl (run trivial) (run trivial)
  have ei : i = l.length := by omega
  subst ei
  subst hm
  refine run ?_
  intro _
  refine HT.loopX (σ := Nat × List Ba.Cell × Value) [1, 4, 5, 24, 25] (fun t => [(8, Is t.2.2), (26, okI .i64 (t.1 : Int))]) (fun t => [ownMp Try.prog 9 3 (mblk v0) l.length (fun n : Int => okI .i64 n) (Ba.lastIx l l.length), ownR t.2.2 27 4 Ba.cCell t.2.1]) (fun t => t.1 ≤ l.length ∧ t.2.1 = Ba.someC n l t.1) (fun t => l.length - t.1) (0, [], .slice none 0 0) ⟨Nat.zero_le _, by unfold Ba.someC; rfl⟩ (run trivial) (run trivial) ?_
  rintro ⟨i, acc, u⟩ ⟨hi, hac⟩
  dsimp only at hi hac ⊢
  have hal := Ba.some_len n l i
  rw [← hac] at hal
  by_cases hlt : i < l.length
  · have hki := (hk i hlt).1
    have hkp := Ba.lastIx_keep hlt
    refine run ?_
    refine ⟨fun _ u' _ h => ?_, fun _ _ h => ?_⟩
    · exact HX.roundX (i + 1, acc ++ [Ba.cellF n (l.getD i default)], u') ⟨⟨by dsimp only; omega, by dsimp only; rw [hac, Ba.some_yes (hkp.1 h)]⟩, by dsimp only; omega⟩ rfl (run trivial) (run trivial)
    · have hkf : Ba.keep l i = false := by
        cases e : Ba.keep l i with
        | false => rfl
        | true => exact (h (hkp.2 e)).elim
      exact HX.roundX (i + 1, acc, u) ⟨⟨by dsimp only; omega, by dsimp only; rw [hac, Ba.some_no hkf]⟩, by dsimp only; omega⟩ rfl (run trivial) (run trivial)
  have hp := Ba.cells_perm n l
  rw [← Ba.some_all, show l.length = i by omega, ← hac] at hp
  have c2 := fun u => baSort u acc (Ba.cellsF n l) (by omega) hp (Ba.cells_up n l)
  exact run trivial
theorem baCells (l : List Ba.Row) (n : Int) (hl : l.length ≤ 100000) (hk : ∀ i, i < l.length → Ba.Okr (l.getD i default)) : CFn Try.prog 10 [TSl 3 Ba.cRow l, okI .i64 n] (TSl 4 Ba.cCell (Ba.cellsF n l)) := (baCellsR l n hl hk).freeze
end Go.Proofs.Ytniogecifadccaa
set_option linter.unusedVariables false
namespace Go.Vk
/-- Whatever reads as a t reads as some a, cell by cell. -/
structure Opn (P : Program) (t : TypeId) {α : Type} (f : α → List Ty) (ok : α → Prop) : Prop where
  size : ∀ a, (f a).length = P.cellsOf t
  go : ∀ {H : Type} (enc : TypeId × Value → H) (W : World) (fuel : Nat) (cs : List Value) (x : DataW H × List MemPlace), DataW.trod enc P W 0 (fun _ => true) true fuel t cs = some x → (∀ n ∈ x.1.weights P t, n ≤ reachBytes) →
    ∃ a, ok a ∧ cs.length = (f a).length ∧ ∀ (j : Nat) (T : Ty) (u : Value), (f a)[j]? = some T → cs[j]? = some u → T.p (heapImm W) u ∧ u.oneCell' = true
section
variable {P : Program} {t : TypeId}
theorem one_at {T : Ty} {v : Value} {G : Imm} (h : T.p G v) (h1 : v.oneCell' = true) : ∀ (j : Nat) (U : Ty) (u : Value), [T][j]? = some U → [v][j]? = some u → U.p G u ∧ u.oneCell' = true := by
  intro j U u hj hu
  cases j with
  | zero => simp at hj hu; subst hj; subst hu; exact ⟨h, h1⟩
  | succ j => simp at hj
theorem Opn.str (ht : P.underlying t = some .string) (hs : P.cellsOf t = 1) : Opn P t cS (fun l => l.length ≤ reachBytes) where
  size := fun _ => hs.symm
  go := by
    intro H enc W fuel cs x h hw
    obtain ⟨s, rfl, rfl, hm⟩ := DataW.trod_string ht h
    refine ⟨s.data.toList, hw _ (by simp [DataW.weights]), rfl, one_at ?_ rfl⟩
    show Value.string s = .string _
    simp
theorem Opn.int {k : IntKind} (ht : P.underlying t = some (.int k)) (hs : P.cellsOf t = 1) : Opn P t (fun n : Int => [okI k n]) (fun n => (Lit.int k n).wf = true) where
  size := fun _ => hs.symm
  go := by
    intro H enc W fuel cs x h hw
    obtain ⟨n, rfl, rfl, hm⟩ := DataW.trod_int ht h
    exact ⟨n, hm, rfl, one_at rfl rfl⟩
theorem Opn.byte (ht : P.underlying t = some (.int .u8)) (hs : P.cellsOf t = 1) : Opn P t cB (fun _ => True) where
  size := fun _ => hs.symm
  go := by
    intro H enc W fuel cs x h hw
    obtain ⟨n, rfl, rfl, hm⟩ := DataW.trod_int ht h
    exact ⟨b8 n, trivial, rfl, one_at (arg_u8 hm) rfl⟩
theorem Opn.bool (ht : P.underlying t = some .bool) (hs : P.cellsOf t = 1) : Opn P t (fun b : Bool => [Is (.bool b)]) (fun _ => True) where
  size := fun _ => hs.symm
  go := by
    intro H enc W fuel cs x h hw
    obtain ⟨b, rfl, rfl⟩ := DataW.trod_bool ht h
    exact ⟨b, trivial, rfl, one_at rfl rfl⟩
theorem Opn.map {α β : Type} {f : α → List Ty} {ok : α → Prop} (h : Opn P t f ok) (g : α → β) {f' : β → List Ty} {ok' : β → Prop} (hs : ∀ b, (f' b).length = P.cellsOf t) (hf : ∀ a, f' (g a) = f a) (hok : ∀ a, ok a → ok' (g a)) : Opn P t f' ok' where
  size := hs
  go := by
    intro H enc W fuel cs x hx hw
    obtain ⟨a, h1, h2, h3⟩ := h.go enc W fuel cs x hx hw
    refine ⟨g a, hok a h1, by rw [hf]; exact h2, by rw [hf]; exact h3⟩
theorem add_none (b o n : Nat) : (⟨b, o, none⟩ : Addr).add n = ⟨b, o + n, none⟩ := by
  unfold Addr.add
  split
  · rename_i h; simp [h]
  · rfl
theorem weightsAll_mem {H : Type} {e : TypeId} : ∀ {ds : List (DataW H)} {d : DataW H}, d ∈ ds → ∀ n ∈ d.weights P e, n ∈ DataW.weightsAll P e ds
  | d0 :: ds, d, hd, n, hn => by
    simp only [DataW.weightsAll, List.mem_append]
    rcases List.mem_cons.1 hd with rfl | hd
    · exact .inl hn
    · exact .inr (weightsAll_mem hd n hn)
theorem Opn.slice {e : TypeId} {α : Type} {f : α → List Ty} {ok : α → Prop} (h : Opn P e f ok) (ht : P.underlying t = some (.slice e)) (hs : P.cellsOf t = 1) (hz : Nat.blt 0 (P.cellsOf e) = true) : Opn P t (cL (P.cellsOf e) f) (fun l => l.length * P.bytesOf e ≤ reachBytes ∧ ∀ a ∈ l, ok a) where
  size := fun _ => hs.symm
  go := by
    intro H enc W fuel cs x hx hw
    have hz : 0 < P.cellsOf e := Nat.le_of_ble_eq_true hz
    rcases DataW.trod_slice ht hx with ⟨rfl, rfl⟩ | ⟨a, len, cap, elems, rest, n, rfl, rfl, rfl, _, hlc, hcm, hel, hget, _, _⟩
    · exact ⟨[], ⟨by simp, by simp⟩, rfl, one_at (TSlX.sl (nil_sl _ f _)) rfl⟩
    · have key : ∀ i : Fin len, ∃ y : α, ok y ∧ ∃ cs', W.cells? 0 (a.add (i.val * P.cellsOf e)) (P.cellsOf e) = some cs' ∧ ∀ (j : Nat) (T : Ty) (u : Value), (f y)[j]? = some T → cs'[j]? = some u → T.p (heapImm W) u ∧ u.oneCell' = true := by
        intro i
        have hi := hget i.val i.isLt
        have hlt : i.val < elems.length := by rw [hel]; exact i.isLt
        rw [List.getElem?_eq_getElem hlt, Option.bind_eq_some_iff] at hi
        obtain ⟨cs', h1, h2⟩ := hi
        obtain ⟨y, g1, g2, g3⟩ := h.go enc W n cs' _ h2 (fun m hm => hw m (by
          simp only [DataW.weights, ht]
          refine List.mem_cons_of_mem _ (List.mem_append_left _ ?_)
          exact weightsAll_mem (List.mem_map.2 ⟨_, List.getElem_mem hlt, rfl⟩) m hm))
        exact ⟨y, g1, cs', h1, g3⟩
      let l : List α := List.ofFn fun i : Fin len => (key i).choose
      have hll : l.length = len := by simp [l]
      have hl : ∀ (i : Nat) (y : α), l[i]? = some y → ∃ hi : i < len, y = (key ⟨i, hi⟩).choose := by
        intro i y hy
        have hi : i < len := by have := (List.getElem?_eq_some_iff.1 hy).1; omega
        refine ⟨hi, ?_⟩
        simp only [l, List.getElem?_ofFn, hi, dite_true, Option.some.injEq] at hy
        exact hy.symm
      refine ⟨l, ⟨?_, ?_⟩, rfl, one_at ?_ rfl⟩
      · have := hw ((elems.length + rest.length) * P.bytesOf e) (by simp only [DataW.weights, ht, List.length_map]; exact List.mem_cons_self)
        have h2 : l.length * P.bytesOf e ≤ (elems.length + rest.length) * P.bytesOf e := Nat.mul_le_mul_right _ (by omega)
        omega
      · intro y hy
        obtain ⟨i, hi⟩ := List.mem_iff_getElem?.1 hy
        obtain ⟨hlt, rfl⟩ := hl i y hi
        exact (key ⟨i, hlt⟩).choose_spec.1
      · refine ⟨some a, cap, by rw [hll], by omega, hcm, (fun e => by cases e), (fun e => by cases e), fun ad e => ?_⟩
        cases e
        have hspot : 0 < len → a.spot = none := by
          intro hp
          obtain ⟨_, cs', h1, _⟩ := (key ⟨0, hp⟩).choose_spec
          have h2 := (World.cells?_some h1).2.2 0 hz
          have h3 : ∃ u, W.cell? ((a.add (0 * P.cellsOf e)).add 0) = some u := by
            have h4 := (World.cells?_some h1).2.1
            exact ⟨_, h2.trans (List.getElem?_eq_getElem (by omega))⟩
          obtain ⟨u, hu⟩ := h3
          have := World.cell?_spot hu
          simpa [Addr.add] using this
        refine ⟨fun hp => hspot (by omega), fun i y hy => ⟨h.size y, ?_⟩⟩
        obtain ⟨hlt, rfl⟩ := hl i y hy
        obtain ⟨_, cs', h1, h3⟩ := (key ⟨i, hlt⟩).choose_spec
        have hsp := hspot (by omega)
        intro j T hT
        have hj : j < P.cellsOf e := by have := (List.getElem?_eq_some_iff.1 hT).1; rw [h.size] at this; exact this
        have h5 := World.cells?_some h1
        have hcj : cs'[j]? = some cs'[j] := List.getElem?_eq_getElem (by omega)
        refine ⟨cs'[j], ?_, h3 j T _ hT hcj⟩
        have h6 := h5.2.2 j hj
        rw [hcj] at h6
        show W.cell? _ = _
        rw [← h6]
        obtain ⟨b, o, sp⟩ := a
        have hsp : sp = none := hsp
        subst hsp
        rw [add_none, add_none]
/-! ### structs -/
inductive OpnF (P : Program) : List Field → Nat → Nat → (α : Type) → (α → List Ty) → (α → Prop) → Prop
  | nil (off : Nat) : OpnF P [] off off Unit (fun _ => []) (fun _ => True)
  | cons {fd : Field} {fs : List Field} {off last : Nat} {A B : Type} {fa : A → List Ty} {oka : A → Prop} {fb : B → List Ty} {okb : B → Prop} (ho : fd.offset = off) (h : Opn P fd.type fa oka) (r : OpnF P fs (off + P.cellsOf fd.type) last B fb okb) : OpnF P (fd :: fs) off last (A × B) (fun p => fa p.1 ++ fb p.2) (fun p => oka p.1 ∧ okb p.2)
theorem OpnF.size {fs : List Field} {off last : Nat} {α : Type} {f : α → List Ty} {ok : α → Prop} (h : OpnF P fs off last α f ok) : ∀ a, off + (f a).length = last := by
  induction h with
  | nil off => intro a; simp
  | cons ho h r ih =>
    rintro ⟨a, b⟩
    have h1 := h.size a
    have h2 := ih b
    simp only [List.length_append]; omega
theorem OpnF.go {H : Type} {enc : TypeId × Value → H} {W : World} {fuel : Nat} {cs : List Value} {fs : List Field} {off last : Nat} {α : Type} {f : α → List Ty} {ok : α → Prop} (h : OpnF P fs off last α f ok) (hlen : cs.length = last) :
    ∀ (xs : List (DataW H × List MemPlace)), xs.length = fs.length → (∀ (i : Nat) (fd : Field), fs[i]? = some fd → DataW.trod enc P W 0 (fun _ => true) true fuel fd.type ((cs.drop fd.offset).take (P.cellsOf fd.type)) = xs[i]?) →
      (∀ n ∈ DataW.weightsEach P (fs.map (·.type)) (xs.map (·.1)), n ≤ reachBytes) →
      ∃ a, ok a ∧ ∀ (j : Nat) (T : Ty) (u : Value), (f a)[j]? = some T → cs[off + j]? = some u → T.p (heapImm W) u ∧ u.oneCell' = true := by
  induction h with
  | nil off => intro xs _ _ _; exact ⟨(), trivial, fun j T u hj => by simp at hj⟩
  | cons ho h r ih =>
    rename_i fd fs off last A B fa oka fb okb
    intro xs hl hx hw
    cases xs with
    | nil => simp at hl
    | cons x xs =>
      have h0 := hx 0 fd rfl
      simp only [List.getElem?_cons_zero] at h0
      obtain ⟨a, a1, a2, a3⟩ := h.go enc W fuel _ x h0 (fun n hn => hw n (by simp only [List.map_cons, DataW.weightsEach, List.mem_append]; exact .inl hn))
      obtain ⟨b, b1, b2⟩ := ih hlen xs (by simpa using hl) (fun i fd' hi => by
        have := hx (i + 1) fd' (by simpa using hi)
        simpa using this) (fun n hn => hw n (by simp only [List.map_cons, DataW.weightsEach, List.mem_append]; exact .inr hn))
      refine ⟨(a, b), ⟨a1, b1⟩, fun j T u hj hu => ?_⟩
      dsimp only at hj
      have hsz := h.size a
      by_cases hlt : j < (fa a).length
      · rw [List.getElem?_append_left hlt] at hj
        refine a3 j T u hj ?_
        rw [List.getElem?_take, List.getElem?_drop, if_pos (by omega), ho]
        exact hu
      · rw [List.getElem?_append_right (by omega)] at hj
        refine b2 _ T u hj ?_
        rw [← hu]
        congr 1; omega
theorem Opn.struct {fs : Array Field} {last : Nat} {α : Type} {f : α → List Ty} {ok : α → Prop} (ht : P.underlying t = some (.struct fs)) (hs : P.cellsOf t = last) (h : OpnF P fs.toList 0 last α f ok) : Opn P t f ok where
  size := fun a => by have := h.size a; omega
  go := by
    intro H enc W fuel cs x hx hw
    obtain ⟨xs, n, rfl, rfl, hl, hxl, hf⟩ := DataW.trod_struct ht hx
    obtain ⟨a, a1, a2⟩ := h.go (by omega) xs (by simpa using hxl) (fun i fd hi => hf i fd (by simpa using hi)) (fun n hn => hw n (by simp only [DataW.weights, ht]; exact hn))
    have hsz := h.size a
    exact ⟨a, a1, by omega, fun j T u hj hu => a2 j T u hj (by rw [Nat.zero_add]; exact hu)⟩
/-! ### arguments -/
section
variable {H : Type} {enc : TypeId × Value → H} {W : World} {v : Value} {d : DataW H} {ps : List MemPlace} {α : Type}
theorem Opn.one {T : α → Ty} {ok : α → Prop} (h : Opn P t (fun a => [T a]) ok) (hc : v.cells = #[v]) (hd : DataW.Trod enc P W 0 (fun _ => true) true t v d ps) (hw : ∀ n ∈ d.weights P t, n ≤ reachBytes) : ∃ a, ok a ∧ (T a).p (heapImm W) v := by
  obtain ⟨fuel, hf⟩ := hd
  obtain ⟨a, h1, h2, h3⟩ := h.go enc W fuel _ _ hf hw
  rw [hc] at h3
  exact ⟨a, h1, (h3 0 (T a) v rfl rfl).1⟩
theorem Opn.sl {e : TypeId} {sz : Nat} {f : α → List Ty} {ok : List α → Prop} {r : Reach} {b0 : Nat} (h : Opn P t (cL sz f) ok) (ht : P.underlying t = some (.slice e)) (hval : Value.okWide P W r b0 t v) (hd : DataW.Trod enc P W 0 (fun _ => true) true t v d ps) (hw : ∀ n ∈ d.weights P t, n ≤ reachBytes) : ∃ l, ok l ∧ (TSl sz f l).p (heapImm W) v := by
  obtain ⟨a, len, cap, rfl⟩ := WideShapes.okWide_slice ht hval
  exact Opn.one (T := fun l => TSl sz f l) h rfl hd hw
theorem Opn.st {ok : List UInt8 → Prop} {r : Reach} {b0 : Nat} (h : Opn P t cS ok) (ht : P.underlying t = some .string) (hval : Value.okWide P W r b0 t v) (hd : DataW.Trod enc P W 0 (fun _ => true) true t v d ps) (hw : ∀ n ∈ d.weights P t, n ≤ reachBytes) : ∃ l, ok l ∧ (Is (Vk.str l)).p (heapImm W) v := by
  obtain ⟨s, rfl⟩ := WideShapes.okWide_string ht hval
  exact Opn.one (T := fun l => Is (Vk.str l)) h rfl hd hw
theorem Opn.ag {fs : Array Field} {f : α → List Ty} {ok : α → Prop} {r : Reach} {b0 : Nat} (h : Opn P t f ok) (ht : P.underlying t = some (.struct fs)) (hval : Value.okWide P W r b0 t v) (hd : DataW.Trod enc P W 0 (fun _ => true) true t v d ps) (hw : ∀ n ∈ d.weights P t, n ≤ reachBytes) : ∃ a, ok a ∧ (TAgg (f a)).p (heapImm W) v := by
  obtain ⟨cs, rfl, hcs⟩ := WideShapes.okWide_struct ht hval
  obtain ⟨fuel, hf⟩ := hd
  obtain ⟨a, h1, h2, h3⟩ := h.go enc W fuel _ _ hf hw
  exact ⟨a, h1, cs.toList, by simp, by simpa [Value.cells] using h2, fun j T u hj hu => h3 j T u hj (by simpa [Value.cells] using hu)⟩
end
theorem weights_at {H : Type} {ts : List TypeId} {ds : List (DataW H)} (h : (DataW.weightsEach P ts ds).all (· ≤ reachBytes) = true) {j : Nat} {d : DataW H} (ht : ts[j]? = some t) (hd : ds[j]? = some d) : ∀ n ∈ d.weights P t, n ≤ reachBytes := fun n hn => by
  have := List.all_eq_true.1 h n (DataW.weights_mem_each ht hd n hn)
  simpa using this
theorem reach_le {n : Nat} (h : n ≤ reachBytes) : n ≤ 140737488351232 := h
end
end Go.Vk
set_option maxRecDepth 8000
set_option linter.unusedVariables false
namespace Go.Proofs.Ytniogecifadccaa
open Go.Vk
attribute [local irreducible] HT HX RegS RegA RegM OpP OpC AltT
def baW (r : Ba.Row) : Int := 1 + (r.key.length : Int) + (r.val.length : Int)
def baSum (l : List Ba.Row) (i : Nat) : Int := ((l.take i).map baW).sum
def baHeavyB (l : List Ba.Row) : Bool := (List.range l.length).any fun i => decide (40000 < baSum l (i + 1)) || decide (520 < i)
theorem baSum_succ {l : List Ba.Row} {i : Nat} (h : i < l.length) : baSum l (i + 1) = baSum l i + baW (l.getD i default) := by
  unfold baSum
  rw [List.take_succ_eq_append_getElem h, List.map_append, List.sum_append, List.getD_eq_getElem?_getD, List.getElem?_eq_getElem h, Option.getD_some]
  simp
theorem baHeavy_yes {l : List Ba.Row} {i : Nat} (h : i < l.length) (k : 40000 < baSum l (i + 1) ∨ 520 < (i : Int)) : baHeavyB l = true := by
  unfold baHeavyB
  rw [List.any_eq_true]
  refine ⟨i, List.mem_range.2 h, ?_⟩
  rw [Bool.or_eq_true, decide_eq_true_eq, decide_eq_true_eq]
  omega
theorem baHeavy_no {l : List Ba.Row} (h : ∀ i, i < l.length → ¬ (40000 < baSum l (i + 1) ∨ 520 < (i : Int))) : baHeavyB l = false := by
  cases e : baHeavyB l with
  | false => rfl
  | true =>
    unfold baHeavyB at e
    rw [List.any_eq_true] at e
    obtain ⟨i, hi, k⟩ := e
    rw [Bool.or_eq_true, decide_eq_true_eq, decide_eq_true_eq] at k
    exact (h i (List.mem_range.1 hi) (by omega)).elim
theorem baW_def (r : Ba.Row) : baW r = 1 + (r.key.length : Int) + (r.val.length : Int) := rfl
theorem baHeavy_len {l : List Ba.Row} (h : baHeavyB l = false) : l.length ≤ 521 := by
  by_cases k : l.length ≤ 521
  · exact k
  · have := baHeavy_yes (l := l) (i := 521) (by omega) (.inr (by omega))
    rw [h] at this; cases this
attribute [local irreducible] baSum baW baHeavyB
theorem baHeavy (l : List Ba.Row) (hk : ∀ i, i < l.length → Ba.Okr (l.getD i default)) : CFn Try.prog 9 [TSl 3 Ba.cRow l] (Is (.bool (baHeavyB l))) := by
  refine CallsC.of Try.call9 Try.func9 rfl Try.ntmps9 rfl fun w0 G0 S0 hs ho => ?_
  refine run ?_
  refine HT.loopX (σ := Nat) [0] (fun i => [(3, okI .i64 (baSum l i)), (4, okI .i64 (i : Int))]) (fun _ => []) (fun i => (i ≤ l.length ∧ i ≤ 521 ∧ 0 ≤ baSum l i ∧ baSum l i ≤ 40000) ∧ ∀ j, j < i → ¬ (40000 < baSum l (j + 1) ∨ 520 < (j : Int))) (fun i => l.length - i) 0 ⟨⟨Nat.zero_le _, by omega, by unfold baSum; simp, by unfold baSum; simp⟩, by omega⟩ (run trivial) (run ?_) ?_
  · unfold baSum; rfl
  rintro i ⟨⟨hi, hi2, hs0, hs⟩, hno⟩
  by_cases hlt : i < l.length
  · obtain ⟨h4, h5⟩ := hk i hlt
    have h1 := baSum_succ hlt
    rw [baW_def] at h1
    have h6 : baSum l i + 1 + ((l.getD i default).key.length : Int) + ((l.getD i default).val.length : Int) = baSum l (i + 1) := by omega
    refine run ?_
    rw [h6]
    refine ⟨fun _ h => (baHeavy_yes hlt h).symm, fun _ h => ?_⟩
    refine HX.roundX (i + 1) ⟨⟨⟨by omega, by omega, by omega, by omega⟩, fun j hj => ?_⟩, by omega⟩ rfl (run trivial) (run trivial)
    rcases (by omega : j < i ∨ j = i) with hj | rfl
    · exact hno j hj
    · omega
  · have e : i = l.length := by omega
    subst e
    have := baHeavy_no hno
    rw [this]
    exact run trivial
/-- The rows of 'known', and their cells. -/
def knR : List Ba.Row := [⟨[98], [120], false⟩, ⟨[97], [121], false⟩, ⟨[98], [], true⟩]
theorem knR_cells : Ba.cellsF 3 knR = [⟨[97], [121], false, 3⟩, ⟨[98], [], true, 3⟩] := by decide +kernel
theorem baKnown : CFn Try.prog 11 [] (Is (.bool true)) := by
  have c1 := baCells knR 3 (by decide) (fun i hi => by
    have : i < 3 := hi
    rcases (by omega : i = 0 ∨ i = 1 ∨ i = 2) with rfl | rfl | rfl <;> exact ⟨by decide, by decide⟩)
  rw [knR_cells] at c1
  have d1 : CFn Try.prog 10 [TSlX 3 (fun ts : List Ty => ts) [[Is (str [98]), Is (str [120]), Is (.bool false)], [Is (str [97]), Is (str [121]), Is (.bool false)], [Is (str [98]), Is (str []), Is (.bool true)]], okI .i64 3] _ := CFn.sub c1 (by exact byQ)
  clear c1
  refine CallsC.of Try.call11 Try.func11 rfl Try.ntmps11 rfl fun w0 G0 S0 hs ho => ?_
  refine run ?_
  rfl
end Go.Proofs.Ytniogecifadccaa
set_option linter.unusedVariables false
namespace Go.Ba
open Go.Vk
theorem getD_mem {α : Type} [Inhabited α] {l : List α} {i : Nat} (h : i < l.length) : l.getD i default ∈ l := by
  rw [List.getD_eq_getElem?_getD, List.getElem?_eq_getElem h]; simp
theorem mem_getD {α : Type} [Inhabited α] {l : List α} {x : α} (h : x ∈ l) : ∃ i, i < l.length ∧ l.getD i default = x := by
  obtain ⟨i, hi, e⟩ := List.getElem_of_mem h
  exact ⟨i, hi, by rw [List.getD_eq_getElem?_getD, List.getElem?_eq_getElem hi, Option.getD_some, e]⟩
theorem cells_at {n : Int} {l : List Row} {d : Cell} (hd : d ∈ cellsF n l) : ∃ k, k < l.length ∧ (∀ j, k < j → j < l.length → (l.getD j default).key ≠ d.key) ∧ d = cellF n (l.getD k default) := by
  rw [(cells_perm n l).mem_iff, ← some_all] at hd
  unfold someC at hd
  obtain ⟨k, hk, e⟩ := List.mem_map.1 hd
  obtain ⟨h1, h2⟩ := List.mem_filter.1 hk
  refine ⟨k, List.mem_range.1 h1, fun j h3 h4 => ?_, e.symm⟩
  rw [← e]
  exact keep_iff.1 h2 j h3 h4
theorem up_at {c : List Cell} (h : Up c) {i : Nat} (h0 : 0 < i) (hi : i < c.length) : sless (c.getD (i - 1) default).key (c.getD i default).key = true := by
  have := List.pairwise_iff_getElem.1 h (i - 1) i (by omega) hi (by omega)
  rw [List.getD_eq_getElem?_getD, List.getElem?_eq_getElem (show i - 1 < c.length by omega), Option.getD_some, List.getD_eq_getElem?_getD, List.getElem?_eq_getElem hi, Option.getD_some]
  exact this
end Go.Ba
set_option maxRecDepth 8000
set_option linter.unusedVariables false
namespace Go.Proofs.Ytniogecifadccaa
open Go.Vk
attribute [local irreducible] HT HX RegS RegA RegM OpP OpC AltT
attribute [local irreducible] baHeavyB Ba.cellsF
set_option maxHeartbeats 4000000 in
theorem lwLast10 (l : List Ba.Row) (n : Int) (hl : l.length ≤ 140737488351232 ∧ ∀ r ∈ l, Ba.Okr r) : CFn Try.prog 3 [TSl 3 Ba.cRow l, okI .i64 n] (Is (.bool true)) := by
  have hok : ∀ i, i < l.length → Ba.Okr (l.getD i default) := fun i hi => hl.2 _ (Ba.getD_mem hi)
  have c0 := baHeavy l hok
  have c8 := baKnown
  cases hb : baHeavyB l with
  | true =>
    rw [hb] at c0
    refine CallsC.of Try.call3 Try.func3 rfl Try.ntmps3 rfl fun w0 G0 S0 hs ho => ?_
    exact run trivial
  | false =>
  rw [hb] at c0
  have hll := baHeavy_len hb
  have c1 := baCells l n (by omega) hok
  have hup := Ba.cells_up n l
  have hcl := Ba.cells_len n l
  have hat := fun d (hd : d ∈ Ba.cellsF n l) => Ba.cells_at hd
  have hkeys := fun k => (Ba.cells_keys n k l).2
  clear hok hl
  generalize Ba.cellsF n l = c at *
  refine CallsC.of Try.call3 Try.func3 rfl Try.ntmps3 rfl fun w0 G0 S0 hs ho => ?_
  refine run ?_
  intros
  refine HT.loopX (σ := Nat) [0, 1, 5] (fun i => [(6, okI .i64 (i : Int))]) (fun i => []) (fun i => i ≤ c.length) (fun i => c.length - i) 0 (Nat.zero_le _) (run trivial) (run trivial) ?_
  intro i hi
  by_cases hlt : i < c.length
  · have h1 : ((i : Int) - 1).toNat = i - 1 := by omega
    have hge := fun h0 => Ba.up_at hup (i := i) h0 hlt
    obtain ⟨kk, hk1, hk2, hk3⟩ := hat _ (Ba.getD_mem hlt)
    refine run ?_
    refine ⟨fun _ h => ?_, fun _ _ => ?_⟩
    · rw [h1, hge (by omega)] at h
      exact absurd h.2 (by simp)
    refine HT.loopX (σ := Nat) [0, 1, 5, 6] (fun t => [(7, okI .i64 ((t : Int) - 1))]) (fun t => []) (fun t => t ≤ l.length ∧ kk < t) (fun t => t) l.length ⟨Nat.le_refl _, hk1⟩ (run trivial) (run trivial) ?_
    rintro t ⟨ht, hkt⟩
    have e1 : ((t : Int) - 1).toNat = t - 1 := by omega
    by_cases hek : (l.getD (t - 1) default).key = (c.getD i default).key
    · have ek : t - 1 = kk := by
        by_cases q : t - 1 = kk
        · exact q
        · exact (hk2 (t - 1) (by omega) (by omega) hek).elim
      have f1 : (l.getD (t - 1) default).val = (c.getD i default).val := by rw [hk3, ek]; rfl
      have f2 : (l.getD (t - 1) default).del = (c.getD i default).del := by rw [hk3, ek]; rfl
      have f3 : (c.getD i default).seq = n := by rw [hk3]; rfl
      refine run ?_
      rw [e1]
      refine ⟨fun h => (h.2 hek).elim, fun _ h => ?_, fun _ _ => ?_⟩
      · exfalso
        rcases h with ((h | h) | h) | h
        · omega
        · exact h f1
        · rw [f2] at h; simp at h
        · exact h f3
      · exact HX.roundX (i + 1) ⟨by omega, by omega⟩ rfl (run trivial) (run trivial)
    · refine run ?_
      rw [e1]
      refine ⟨fun h => ?_, fun h _ => ?_, fun h _ => ?_⟩
      · have e2 : (((t - 1 : Nat) : Int)) - 1 = (t : Int) - 1 - 1 := by omega
        refine HX.roundX (t - 1) ⟨⟨by omega, by
          by_cases q : t - 1 = kk
          · exact (hek (by rw [hk3, q]; rfl)).elim
          · omega⟩, by omega⟩ rfl (run trivial) ?_
        rw [e2]
        exact run trivial
      · rcases h with h | h
        · omega
        · exact absurd hek h
      · rcases h with h | h
        · omega
        · exact absurd hek h
  refine run ?_
  intro _
  refine HT.loopX (σ := Nat) [0, 5] (fun i => [(8, okI .i64 (i : Int))]) (fun i => []) (fun i => i ≤ l.length) (fun i => l.length - i) 0 (Nat.zero_le _) (run trivial) (run trivial) ?_
  intro j hj
  by_cases hlt2 : j < l.length
  · obtain ⟨d, hd, hdk⟩ := hkeys _ ⟨_, Ba.getD_mem hlt2, rfl⟩
    obtain ⟨p, hp1, hp2⟩ := Ba.mem_getD hd
    have hpk : (c.getD p default).key = (l.getD j default).key := by rw [hp2]; exact hdk
    refine run ?_
    intro _
    refine HT.loopX (σ := Nat) [0, 5, 8] (fun k => [(9, okI .i64 (k : Int))]) (fun k => []) (fun k => k ≤ p) (fun k => c.length - k) 0 (Nat.zero_le _) (run trivial) (run trivial) ?_
    intro k hk
    by_cases hek : (c.getD k default).key = (l.getD j default).key
    · refine run ?_
      refine ⟨fun h => (h.2 hek).elim, fun _ _ => ?_⟩
      exact HX.roundX (j + 1) ⟨by omega, by omega⟩ rfl (run trivial) (run trivial)
    · have hkp : k < p := by
        by_cases q : k = p
        · subst q; exact (hek hpk).elim
        · omega
      refine run ?_
      refine ⟨fun h => ?_, fun h _ => ?_⟩
      · exact HX.roundX (k + 1) ⟨by omega, by omega⟩ rfl (run trivial) (run trivial)
      · rcases h with h | h
        · omega
        · exact absurd hek h
  exact run trivial
end Go.Proofs.Ytniogecifadccaa
set_option linter.unusedVariables false
namespace Go.Ba
open Go.Vk
def Apart (l : List Row) : Prop := l.Pairwise fun a b => a.key ≠ b.key
theorem last_apart : ∀ {l : List Row}, Apart l → lastR l = l
  | [], _ => rfl
  | r :: t, h => by
    have h1 := List.pairwise_cons.1 h
    rw [lastR, last_apart h1.2, if_neg]
    rw [List.any_eq_true]
    rintro ⟨x, hx, e⟩
    exact h1.1 x hx (of_decide_eq_true e).symm
theorem up_one {a b : List Cell} (ha : Up a) (hb : Up b) (hp : a.Perm b) : a = b := by
  refine List.Perm.eq_of_pairwise (le := fun a b => sless b.key a.key = false) ?_ (ha.imp fun h => sless_asymm h) (hb.imp fun h => sless_asymm h) hp
  intro x y h1 h2 h3 h4
  have h2' := hp.mem_iff.2 h2
  obtain ⟨i, hi, e1⟩ := List.getElem_of_mem h1
  obtain ⟨j, hj, e2⟩ := List.getElem_of_mem h2'
  rcases Nat.lt_trichotomy i j with k | k | k
  · have := List.pairwise_iff_getElem.1 ha i j hi hj k
    rw [e1, e2, h4] at this; cases this
  · subst k; rw [← e1, ← e2]
  · have := List.pairwise_iff_getElem.1 ha j i hj hi k
    rw [e1, e2, h3] at this; cases this
theorem apart_of {l : List Row} (h : ∀ a b, a < b → b < l.length → (l.getD a default).key ≠ (l.getD b default).key) : Apart l := by
  unfold Apart
  rw [List.pairwise_iff_getElem]
  intro i j hi hj hij
  have := h i j hij hj
  rwa [List.getD_eq_getElem?_getD, List.getElem?_eq_getElem hi, Option.getD_some, List.getD_eq_getElem?_getD, List.getElem?_eq_getElem hj, Option.getD_some] at this
theorem turns {n : Int} {l : List Row} (h : Apart l) : (cellsF n l).length = l.length ∧ cellsF n l.reverse = cellsF n l := by
  have h2 : Apart l.reverse := by
    unfold Apart
    rw [List.pairwise_reverse]
    exact h.imp fun h => fun e => h e.symm
  have p1 := cells_perm n l
  have p2 := cells_perm n l.reverse
  rw [last_apart h] at p1
  rw [last_apart h2] at p2
  refine ⟨by rw [p1.length_eq, List.length_map], up_one (cells_up _ _) (cells_up _ _) ?_⟩
  exact p2.trans (((List.reverse_perm l).map _).trans p1.symm)
theorem drop_rev {l : List Row} {t : Nat} (h : t < l.length) : (l.drop (t + 1)).reverse ++ [l.getD t default] = (l.drop t).reverse := by
  rw [List.drop_eq_getElem_cons h, List.reverse_cons, List.getD_eq_getElem?_getD, List.getElem?_eq_getElem h]; rfl
end Go.Ba
set_option maxRecDepth 8000
set_option linter.unusedVariables false
namespace Go.Proofs.Ytniogecifadccaa
open Go.Vk
attribute [local irreducible] HT HX RegS RegA RegM OpP OpC AltT
attribute [local irreducible] baHeavyB Ba.cellsF
set_option maxHeartbeats 4000000 in
theorem lwTurns10 (l : List Ba.Row) (n : Int) (hl : l.length ≤ 140737488351232 ∧ ∀ r ∈ l, Ba.Okr r) : CFn Try.prog 4 [TSl 3 Ba.cRow l, okI .i64 n] (Is (.bool true)) := by
  have hok : ∀ i, i < l.length → Ba.Okr (l.getD i default) := fun i hi => hl.2 _ (Ba.getD_mem hi)
  have hok2 : ∀ i, i < l.reverse.length → Ba.Okr (l.reverse.getD i default) := fun i hi => hl.2 _ (List.mem_reverse.1 (Ba.getD_mem hi))
  have c0 := baHeavy l hok
  have c8 := baKnown
  cases hb : baHeavyB l with
  | true =>
    rw [hb] at c0
    refine CallsC.of Try.call4 Try.func4 rfl Try.ntmps4 rfl fun w0 G0 S0 hs ho => ?_
    exact run trivial
  | false =>
  rw [hb] at c0
  have hll := baHeavy_len hb
  refine CallsC.of Try.call4 Try.func4 rfl Try.ntmps4 rfl fun w0 G0 S0 hs ho => ?_
  refine run ?_
  intros
  refine HT.loopX (σ := Nat × List Ba.Row × Value) [0, 1] (fun t => [(5, TAnd (Is t.2.2) (TSl 3 Ba.cRow t.2.1)), (6, okI .i64 ((t.1 : Int) - 1))]) (fun t => [ownSl t.2.2 3 29]) (fun t => (t.1 ≤ l.length ∧ t.2.1 = (l.drop t.1).reverse) ∧ ∀ a b, a < b → t.1 ≤ b → b < l.length → (l.getD a default).key ≠ (l.getD b default).key) (fun t => t.1) (l.length, [], .slice none 0 0) ⟨⟨Nat.le_refl _, by simp⟩, by intro a b _ h1 h2; dsimp only at h1; omega⟩ (run trivial) (run trivial) ?_
  rintro ⟨t, acc, u⟩ ⟨⟨ht, hac⟩, hap⟩
  dsimp only at ht hac hap ⊢
  have hal : acc.length = l.length - t := by rw [hac]; simp
  by_cases h0 : 0 < t
  · have e1 : ((t : Int) - 1).toNat = t - 1 := by omega
    refine run ?_
    intro _
    refine HT.loopX (σ := Nat) [0, 1, 5, 6] (fun k => [(7, okI .i64 (k : Int))]) (fun k => [ownSl u 3 29]) (fun k => k ≤ t - 1 ∧ ∀ a, a < k → (l.getD a default).key ≠ (l.getD (t - 1) default).key) (fun k => t - k) 0 ⟨Nat.zero_le _, by omega⟩ (run trivial) (run trivial) ?_
    rintro k ⟨hk, hka⟩
    by_cases hlt : k < t - 1
    · refine run ?_
      rw [e1]
      intro _ h
      refine HX.roundX (k + 1) ⟨⟨by omega, fun a ha => ?_⟩, by omega⟩ rfl (run trivial) (run trivial)
      rcases (by omega : a < k ∨ a = k) with ha | rfl
      · exact hka a ha
      · exact h
    · refine run ?_
      rw [e1]
      intro u' _
      have e2 : (((t - 1 : Nat) : Int)) - 1 = (t : Int) - 1 - 1 := by omega
      have hdr := Ba.drop_rev (l := l) (t := t - 1) (by omega)
      rw [show t - 1 + 1 = t by omega, ← hac] at hdr
      refine HX.roundX (t - 1, acc ++ [l.getD (t - 1) default], u') ⟨⟨⟨by dsimp only; omega, hdr⟩, fun a b h1 h2 h3 => ?_⟩, by dsimp only; omega⟩ rfl (run trivial) ?_
      · dsimp only at h2
        rcases (by omega : t ≤ b ∨ b = t - 1) with h4 | rfl
        · exact hap a b h1 h4 h3
        · exact hka a (by omega)
      · dsimp only
        rw [e2]
        exact run trivial
  have et : t = 0 := by omega
  subst et
  rw [List.drop_zero] at hac
  subst hac
  have hT := Ba.turns (n := n) (Ba.apart_of fun a b h1 h2 => hap a b h1 (Nat.zero_le _) h2)
  have c1 := baCells l n (by omega) hok
  have c2 := baCells l.reverse n (by rw [List.length_reverse]; omega) hok2
  rw [hT.2] at c2
  have hcl := hT.1
  clear hok hok2 hl hap hT
  generalize Ba.cellsF n l = c at *
  refine run ?_
  intro _ _
  refine HT.loopX (σ := Nat) [8, 9] (fun i => [(10, okI .i64 (i : Int))]) (fun i => [ownSl u 3 29]) (fun i => i ≤ c.length) (fun i => c.length - i) 0 (Nat.zero_le _) (run trivial) (run trivial) ?_
  intro i hi
  by_cases hlt : i < c.length
  · refine run ?_
    refine ⟨fun _ h => ?_, fun _ _ => ?_⟩
    · exfalso
      simp [allB] at h
    · exact HX.roundX (i + 1) ⟨by omega, by omega⟩ rfl (run trivial) (run trivial)
  exact run trivial
theorem opnRow : Opn Try.prog 29 Ba.cRow Ba.Okr :=
  (Opn.struct Try.underlying29 (by kernel_rfl) (OpnF.cons rfl (Opn.str Try.underlying9 (by kernel_rfl)) (OpnF.cons rfl (Opn.str Try.underlying9 (by kernel_rfl)) (OpnF.cons rfl (Opn.bool Try.underlying4 (by kernel_rfl)) (OpnF.nil _))))).map
    (fun p => ⟨p.1, p.2.1, p.2.2.1⟩) (fun a => by kernel_rfl) (fun p => rfl) (fun p h => ⟨h.1, h.2.1⟩)
theorem opnRows : Opn Try.prog 22 (cL 3 Ba.cRow) (fun l => l.length ≤ 140737488351232 ∧ ∀ r ∈ l, Ba.Okr r) := by
  have h := Opn.slice opnRow Try.underlying22 (by kernel_rfl) (by kernel_rfl)
  rw [show Try.prog.cellsOf 29 = 3 by kernel_rfl] at h
  have hb : Try.prog.bytesOf 29 = 40 := by kernel_rfl
  exact h.map id (fun l => by rw [show Try.prog.cellsOf 22 = 1 by kernel_rfl]; rfl) (fun _ => rfl) (fun l hl => ⟨by have := reach_le hl.1; rw [hb] at this; show l.length ≤ _; omega, hl.2⟩)
end Go.Proofs.Ytniogecifadccaa
