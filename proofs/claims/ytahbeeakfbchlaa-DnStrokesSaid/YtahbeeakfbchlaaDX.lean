/-
  The laws DnBack, DnBlanks and DnStrokes.
-/
import Derived.Test.YtahbeeakfbchlaaDW
set_option linter.unusedVariables false
namespace Go.Dn
open Go.Vk
def gapT (n : Nat) : List UInt8 := List.replicate n 32
theorem gapT_succ (n : Nat) : gapT (n + 1) = gapT n ++ [32] := List.replicate_succ'
theorem wgt2 (a b : Ava) : wgt [a, b] = 2 + a.typ.length + a.val.length + b.typ.length + b.val.length := by simp [wgt]; omega
theorem wgt1 (a : Ava) : wgt [a] = 1 + a.typ.length + a.val.length := by simp [wgt]
theorem print_one (a : Ava) : printE [a] = ptT a := by rw [printE_cons]; simp [joinT]
theorem isE_two {a b : Ava} (h : isE [a, b] = true) : okA a = true ∧ okA b = true := by
  have := (isE_all h).2
  exact ⟨this a (by simp), this b (by simp)⟩
theorem blanks_law {a b : Ava} (h : isE [a, b] = true) (n : Nat) : parseE (gapT n ++ printE [a] ++ gapT n ++ [44] ++ gapT n ++ printE [b] ++ gapT n) = ([a, b], 0) := by
  obtain ⟨ha, hb⟩ := isE_two h
  have := parseE_told (_, a) [(_, b)] (by
    intro q hq
    rcases List.mem_cons.1 hq with rfl | hq
    · exact ptT_gap ha n n
    · rw [List.mem_singleton.1 hq]; exact ptT_gap hb n n) h
  rw [print_one, print_one]
  unfold joinT at this
  simpa [gapT] using this
/-! ### strokes -/
def hexU : List UInt8 := [48, 49, 50, 51, 52, 53, 54, 55, 56, 57, 65, 66, 67, 68, 69, 70]
def strT (c : UInt8) : List UInt8 := [92, hexU.getD ((c.toNat : Int) / 16).toNat 0, hexD.getD ((c.toNat : Int) % 16).toNat 0]
theorem hexU_tab : ∀ n : Fin 16, hexU.getD (n.val : Int).toNat 0 ∉ strk ∧ hexOk (hexU.getD (n.val : Int).toNat 0) = true ∧ hexV (hexU.getD (n.val : Int).toNat 0) = (n.val : Int) := by decide +kernel
theorem hexD_tab : ∀ n : Fin 16, hexOk (hexD.getD (n.val : Int).toNat 0) = true ∧ hexV (hexD.getD (n.val : Int).toNat 0) = (n.val : Int) := by decide +kernel
theorem strU_ok (c : UInt8) : OkU (strT c, c, true) := by
  have hc := c.toNat_lt
  obtain ⟨a1, a2, a3⟩ := hexU_tab ⟨((c.toNat : Int) / 16).toNat, by omega⟩
  obtain ⟨b2, b3⟩ := hexD_tab ⟨((c.toNat : Int) % 16).toNat, by omega⟩
  have e1 : ((((c.toNat : Int) / 16).toNat : Nat) : Int) = (c.toNat : Int) / 16 := by omega
  have e2 : ((((c.toNat : Int) % 16).toNat : Nat) : Int) = (c.toNat : Int) % 16 := by omega
  simp only [e1] at a1 a2 a3
  simp only [e2] at b2 b3
  right; right; right
  refine ⟨_, _, rfl, a1, a2, b2, ?_, rfl⟩
  dsimp only
  rw [a3, b3]
  exact (b8_eq (by omega)).symm
def strUs (v : List UInt8) : Us := v.map fun c => (strT c, c, true)
def strokesT (v : List UInt8) : List UInt8 := [99, 110, 61] ++ v.flatMap strT
theorem strokes_law {v : List UInt8} (h : 0 < v.length) (h2 : v.length ≤ 64) : parseE (strokesT v) = ([⟨[99, 110], v⟩], 0) ∧ isE [⟨[99, 110], v⟩] = true := by
  have hne : v ≠ [] := by intro e; rw [e] at h; simp at h
  have hok : okA ⟨[99, 110], v⟩ = true := (okA_iff _).2 ⟨⟨(by decide : typB [99, 110] = true), by show ¬ (v.length : Int) < 1; omega⟩, by show ¬ 64 < (v.length : Int); omega⟩
  have hE : isE [⟨[99, 110], v⟩] = true := by unfold isE; simp [hok]
  have ht : txt (strUs v) = v.flatMap strT := by unfold txt strUs; rw [List.flatMap_map]
  have hb : byt (strUs v) = v := by unfold byt strUs; rw [List.map_map]; exact List.map_id' _
  have hp := part_told 0 0 0 0 [99, 110] (by decide) (U := strUs v) (by
      intro u hu; unfold strUs at hu; obtain ⟨c, _, rfl⟩ := List.mem_map.1 hu; exact strU_ok c) (by unfold strUs; simpa using hne) (by
      intro u hu; unfold strUs at hu; rw [List.getLast?_map] at hu; obtain ⟨c, _, rfl⟩ := Option.map_eq_some_iff.1 hu; rfl) (by
      intro u hu; unfold strUs at hu; rw [List.head?_map] at hu; obtain ⟨c, _, rfl⟩ := Option.map_eq_some_iff.1 hu; exact .inr ⟨92, _, rfl, by decide⟩)
  rw [ht, hb] at hp
  have := parseE_told (_, ⟨[99, 110], v⟩) [] (by
    intro q hq; rw [List.mem_singleton.1 hq]; exact hp) hE
  refine ⟨?_, hE⟩
  unfold joinT at this
  simpa [strokesT] using this
theorem strokes_snoc {v : List UInt8} {i : Nat} (h : i < v.length) : strokesT (v.take (i + 1)) = strokesT (v.take i) ++ strT (v.getD i 0) := by
  unfold strokesT
  rw [List.take_succ_eq_append_getElem h, List.flatMap_append, List.getD_eq_getElem?_getD, List.getElem?_eq_getElem h]
  simp
theorem strokes_len (v : List UInt8) : (strokesT v).length = 3 + 3 * v.length := by
  unfold strokesT
  induction v with
  | nil => rfl
  | cons c v ih => simp only [List.flatMap_cons, List.length_append, List.length_cons, List.length_nil, strT] at *; omega
end Go.Dn
set_option linter.unusedVariables false
namespace Go.Proofs.Ytahbeeakfbchlaa
open Go.Vk
attribute [local irreducible] HT HX RegS RegA RegM OpP OpC
attribute [local irreducible] Dn.tellR Dn.tellC Dn.tellE Dn.printR Dn.printC Dn.printE Dn.foldR Dn.foldE Dn.normE Dn.normA Dn.sameE Dn.underE Dn.parseE Dn.isE Dn.typB Dn.wgt Dn.gapT Dn.strokesT
theorem dnPrint_len (l : List Dn.Ava) : (Dn.printE l).length ≤ 3 * Dn.wgt l := by
  have := Dn.printR_len (l := l) (i := l.length) (Nat.le_refl _)
  rw [List.take_length] at this
  unfold Dn.printE; exact this
set_option maxHeartbeats 2000000 in
theorem dnBack (l : List Dn.Ava) (hl : l.length ≤ 140737488351232) (ha : ∀ a ∈ l, a.typ.length ≤ 140737488351232 ∧ a.val.length ≤ 140737488351232) : CFn Try.prog 3 [TSl 2 Dn.cAva l] (Is (.bool true)) := by
  have c0 := lwKnown
  have c1 := lwHeavy l hl ha
  have c2 := rfIs l (by omega) (fun a h => by have := ha a h; omega)
  have c3 := dnPrint l
  have c4 := dnParse (Dn.printE l)
  have c5 := lwNames
  have hw := Dn.wgt_len l
  have hp := dnPrint_len l
  have hb := Dn.parse_print (l := l)
  have hpl := Dn.parseE_len (Dn.printE l)
  refine CallsC.of Try.call3 Try.func3 rfl Try.ntmps3 rfl fun w0 G0 S0 hs ho => ?_
  refine run ?_
  intro h
  rw [hb h.2]
  simp
set_option maxHeartbeats 2000000 in
theorem dnBlanks' (a b : Dn.Ava) (n : Int) (ha : a.typ.length ≤ 140737488351232 ∧ a.val.length ≤ 140737488351232) (hb : b.typ.length ≤ 140737488351232 ∧ b.val.length ≤ 140737488351232) : CFn Try.prog 4 [TAgg (Dn.cAva a), TAgg (Dn.cAva b), okI .i64 n] (Is (.bool true)) := by
  have hm : ∀ x ∈ [a, b], x.typ.length ≤ 140737488351232 ∧ x.val.length ≤ 140737488351232 := by
    intro x hx; simp at hx; rcases hx with rfl | rfl
    · exact ha
    · exact hb
  have c0 := lwKnown
  have c1 := lwHeavy [a, b] (by simp) hm
  have c2 := rfIs [a, b] (by simp) (fun x h => by have := hm x h; omega)
  have c2' : CFn Try.prog 12 [TSlX 2 (fun ts : List Ty => ts) [Dn.cAva a, Dn.cAva b]] (Is (.bool (Dn.isE [a, b]))) := CFn.sub c2 (by (repeat (first | exact TsSub.nil | apply TsSub.cons (by first | with_reducible exact Sub.refl _ | exact Sub.slxT rfl | exact Sub.slT rfl | exact Sub.slx rfl | exact Sub.nil _ _ | exact Sub.refl _) | fail)); done)
  have c1' : CFn Try.prog 11 [TSlX 2 (fun ts : List Ty => ts) [Dn.cAva a, Dn.cAva b]] (Is (.bool (decide (1000 < Dn.wgt [a, b])))) := CFn.sub c1 (by (repeat (first | exact TsSub.nil | apply TsSub.cons (by first | with_reducible exact Sub.refl _ | exact Sub.slxT rfl | exact Sub.slT rfl | exact Sub.slx rfl | exact Sub.nil _ _ | exact Sub.refl _) | fail)); done)
  clear c1 c2
  by_cases hbig : 1000 < Dn.wgt [a, b]
  · refine CallsC.of Try.call4 Try.func4 rfl Try.ntmps4 rfl fun w0 G0 S0 hs ho => ?_
    exact run trivial
  have hw1 := Dn.wgt1 a
  have hw2 := Dn.wgt1 b
  have hw3 := Dn.wgt2 a b
  have c3 : CFn Try.prog 14 [TSlX 2 (fun ts : List Ty => ts) [Dn.cAva a]] (Is (str (Dn.printE [a]))) := CFn.sub (dnPrint [a] (by omega)) (by (repeat (first | exact TsSub.nil | apply TsSub.cons (by first | with_reducible exact Sub.refl _ | exact Sub.slxT rfl | exact Sub.slT rfl | exact Sub.slx rfl | exact Sub.nil _ _ | exact Sub.refl _) | fail)); done)
  have c4 : CFn Try.prog 14 [TSlX 2 (fun ts : List Ty => ts) [Dn.cAva b]] (Is (str (Dn.printE [b]))) := CFn.sub (dnPrint [b] (by omega)) (by (repeat (first | exact TsSub.nil | apply TsSub.cons (by first | with_reducible exact Sub.refl _ | exact Sub.slxT rfl | exact Sub.slT rfl | exact Sub.slx rfl | exact Sub.nil _ _ | exact Sub.refl _) | fail)); done)
  have hp1 := dnPrint_len [a]
  have hp2 := dnPrint_len [b]
  have hgl : ∀ k, (Dn.gapT k).length = k := by intro k; unfold Dn.gapT; simp
  have c5 := dnParse
  have c6 := lwNames
  have c7 := fun l (hl : l.length ≤ 1152921504606846976) => CFn.sub (lwNames l [a, b] hl) (A := [TSl 2 Dn.cAva l, TSlX 2 (fun ts : List Ty => ts) [Dn.cAva a, Dn.cAva b]]) (by (repeat (first | exact TsSub.nil | apply TsSub.cons (by first | with_reducible exact Sub.refl _ | exact Sub.slxT rfl | exact Sub.slT rfl | exact Sub.slx rfl | exact Sub.nil _ _ | exact Sub.refl _) | fail)); done)
  clear c6
  refine CallsC.of Try.call4 Try.func4 rfl Try.ntmps4 rfl fun w0 G0 S0 hs ho => ?_
  refine run ?_
  intro h
  refine HT.loopX (σ := Nat) [2, 3, 4, 6] (fun i => [(7, Is (str (Dn.gapT i))), (8, okI .i64 (i : Int))]) (fun _ => []) (fun i => (i : Int) ≤ n) (fun i => n.toNat - i) 0 (by omega) (run trivial) (run ?_) ?_
  · unfold Dn.gapT; rfl
  intro i hi
  have hg := hgl i
  by_cases hlt : (i : Int) < n
  · refine run ?_
    intro _
    refine HX.roundX (i + 1) ⟨by omega, by omega⟩ rfl (run trivial) (run ?_)
    exact (Dn.gapT_succ i).symm
  · have hbl := Dn.blanks_law h.1.1.2 i
    have hpl := Dn.parseE_len (Dn.gapT i ++ Dn.printE [a] ++ Dn.gapT i ++ [44] ++ Dn.gapT i ++ Dn.printE [b] ++ Dn.gapT i)
    refine run ?_
    intro _
    rw [hbl]
    simp
set_option maxHeartbeats 2000000 in
theorem dnStrokes (v : List UInt8) : CFn Try.prog 5 [Is (str v)] (Is (.bool true)) := by
  have c0 := lwKnown
  by_cases hv : v.length < 1 ∨ 64 < v.length
  · refine CallsC.of Try.call5 Try.func5 rfl Try.ntmps5 rfl fun w0 G0 S0 hs ho => ?_
    exact run trivial
  obtain ⟨hs1, hs2⟩ := Dn.strokes_law (v := v) (by omega) (by omega)
  have hs3 := Dn.parse_print hs2
  have hsl := Dn.strokes_len v
  have c1 := dnParse (Dn.strokesT v) (by omega)
  rw [hs1] at c1
  have hw := Dn.wgt1 ⟨[99, 110], v⟩
  have hw2 : Dn.wgt [⟨[99, 110], v⟩] ≤ 1048576 := by rw [hw]; dsimp only; simp; omega
  have hpl := dnPrint_len [⟨[99, 110], v⟩]
  have c2 := dnPrint [⟨[99, 110], v⟩] hw2
  have c3 := dnParse (Dn.printE [⟨[99, 110], v⟩]) (by have h5 : Dn.wgt [⟨[99, 110], v⟩] ≤ 100 := by { rw [hw]; dsimp only; simp; omega }
                                                      omega)
  rw [hs3] at c3
  have c4 := lwNames [⟨[99, 110], v⟩] [⟨[99, 110], v⟩] (by simp)
  have c5 := rfIs [⟨[99, 110], v⟩] (by simp) (by simp)
  rw [hs2] at c5
  refine CallsC.of Try.call5 Try.func5 rfl Try.ntmps5 rfl fun w0 G0 S0 hs ho => ?_
  refine run ?_
  intro h
  refine HT.loopX (σ := Nat) [0, 2] (fun i => [(3, Is (str (Dn.strokesT (v.take i)))), (4, okI .i64 (i : Int))]) (fun _ => []) (fun i => i ≤ v.length) (fun i => v.length - i) 0 (Nat.zero_le _) (run trivial) (run ?_) ?_
  · unfold Dn.strokesT; rfl
  intro i hi
  have hil := Dn.strokes_len (v.take i)
  rw [List.length_take] at hil
  have hc := (v.getD i 0).toNat_lt
  by_cases hlt : i < v.length
  · refine run ?_
    intro _
    refine HX.roundX (i + 1) ⟨by omega, by omega⟩ rfl (run trivial) (run ?_)
    rw [Dn.strokes_snoc hlt]
    unfold Dn.strT
    rw [show (((v.getD i 0).toNat : Int) / 16).toNat = (v.getD i 0).toNat / 16 by omega]
    simp only [List.append_assoc]; rfl
  · rw [List.take_of_length_le (show v.length ≤ i by omega)] at *
    exact run trivial
end Go.Proofs.Ytahbeeakfbchlaa
