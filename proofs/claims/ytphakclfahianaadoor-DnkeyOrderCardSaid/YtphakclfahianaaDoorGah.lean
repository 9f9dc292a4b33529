/-
  Rows that are written in place: literals, append, slices of them; what has room and holds nothing. Nothing here speaks of a program; no conditions.
  More rules: a byte's top bit, numbers of 64 bits without sign, read back with a sign. Nothing here speaks of a program; no conditions.
  From a contract to a law's walk: the whole heap as the call finds it is the persistent heap. Nothing here speaks of a program; no conditions.
  Arguments that are bytes: the list of bytes that a row of numbers stands for. Nothing here speaks of a program; no conditions.
  Maps of one's own: made, looked into, written. Nothing here speaks of a program; no conditions.
  A package-level variable that holds an int: said as something that a function is handed and hands back, without a block of its own. Nothing here speaks of a program; no conditions.
-/
import Derived.Test.YtphakclfahianaaDoorGag
import Derived.Laws.Externs
import Derived.Lib.AppendZerosOnto
import Derived.Test.YtphakclfahianaaDoorGac
import Derived.ProofKit
import Derived.Test.YtphakclfahianaaDoorGae
import Derived.Maps.OwnSet
import Derived.DeepKeys4
import Derived.StringKeys
set_option linter.unusedSimpArgs false
set_option linter.unusedVariables false
set_option linter.unusedVariables false
namespace Go.Vk
section
variable {P : Program} {L : List Res} {E : Env} {dst : Option Tmp} {ty : TypeId} {pos : String} {after : Array Edge} {gd : Option (Nat × Bool)} {α : Type} {g c sz by_ : Nat} {f : α → List Ty} {l m : List α} {t e : TypeId} {z : Value}
theorem tlSz {β : Type} (cs : Array β) : cs.toList.length = cs.size := rfl
/-- A new block, whose first cells are some elements. -/
theorem freshA {G : Imm} {w w1 : World} (hs : Sat G w) {cs : Array Value} (h1 : w1.heap = (w.alloc (.cells cs e)).heap) (h2 : w1.os = w.os) (h3 : w1.tape = w.tape) (h4 : w1.output = w.output)
    (hf : ∀ a ∈ l, (f a).length = sz) (hc : l.length ≤ c ∧ c ≤ maxLen) (hcs : cs.size = c * sz) (hone : ∀ u ∈ cs.toList, u.oneCell' = true) (hv : ∀ (i : Nat) (y : α), l[i]? = some y → ∀ (j : Nat) (T : Ty), (f y)[j]? = some T → ∃ u, cs[i * sz + j]? = some u ∧ T.p G u) :
    Ext noZ G w G w1 ∧ (ownA w.heap.size c e sz f l).p (fun b => b = w.heap.size) G w1 ∧ w1.heap.size = w.heap.size + 1 := by
  have hnew : w1.heap[w.heap.size]? = some (.cells cs e (0, 0)) := by rw [h1]; exact heap_new w _
  have hext0 := Ext.new hs [] (.cells cs e) (fun j v hj => by simp at hj) w1 h1 h2 h3 h4
  have hG : Imm.add G w.heap.size [] = G := by
    funext b o
    unfold Imm.add
    by_cases hbg : b = w.heap.size
    · subst hbg
      rw [if_pos rfl]
      cases hgo : G w.heap.size o with
      | none => simp
      | some v => exact absurd (hs.lt hgo) (by omega)
    · rw [if_neg hbg]
  rw [hG] at hext0
  have hfree : ∀ o, G w.heap.size o = none := fun o => by
    cases hgo : G w.heap.size o with
    | none => rfl
    | some v => exact absurd (hs.lt hgo) (by omega)
  have hlen : l.length * sz ≤ cs.size := by rw [hcs]; exact Nat.mul_le_mul_right _ hc.1
  refine ⟨hext0, ⟨hf, hc.1, hc.2, (cs.toList.drop (l.length * sz)).map Is, ?_, fun b => Iff.rfl, ⟨_, hnew, ?_, ?_⟩, hfree⟩, by rw [h1]; simp⟩
  · rw [List.length_append, flat_length hf, List.length_map, List.length_drop, tlSz cs]; omega
  · rw [List.length_append, flat_length hf, List.length_map, List.length_drop, tlSz cs]; omega
  · intro j T hT
    by_cases hj : j < l.length * sz
    · rw [List.getElem?_append_left (by rw [flat_length hf]; exact hj)] at hT
      have hsz0 : 0 < sz := Nat.pos_of_ne_zero fun h0 => by rw [h0] at hj; simp at hj
      have hdj : j / sz < l.length := (Nat.div_lt_iff_lt_mul hsz0).2 hj
      have hej : j = j / sz * sz + j % sz := by rw [Nat.mul_comm]; exact (Nat.div_add_mod j sz).symm
      have hrow := List.getElem?_eq_getElem hdj
      have hmod : j % sz < (f l[j / sz]).length := by rw [hf _ (List.getElem_mem hdj)]; exact Nat.mod_lt _ hsz0
      have hfg := flat_get (rest := []) hf hrow (List.getElem?_eq_getElem hmod)
      rw [← hej, List.append_nil] at hfg
      rw [hfg] at hT
      cases hT
      obtain ⟨u, g1, g2⟩ := hv _ _ hrow (j % sz) _ (List.getElem?_eq_getElem hmod)
      rw [← hej] at g1
      exact ⟨u, g1, g2, hone u (Array.mem_toList_iff.2 (Array.mem_of_getElem? g1))⟩
    · rw [List.getElem?_append_right (by rw [flat_length hf]; omega), flat_length hf, List.getElem?_map, List.getElem?_drop] at hT
      obtain ⟨u, hu, rfl⟩ := Option.map_eq_some_iff.1 hT
      rw [show l.length * sz + (j - l.length * sz) = j by omega] at hu
      have hu' : cs[j]? = some u := by simpa using hu
      exact ⟨u, hu', rfl, hone u (Array.mem_toList_iff.2 (Array.mem_of_getElem? hu'))⟩
theorem zero_one (hz1 : z.cells.toList.all Value.oneCell' = true) (n : Nat) : ∀ u ∈ (Builtin.zeroCells z.cells n).toList, u.oneCell' = true := by
  intro u hu
  rw [List.all_eq_true] at hz1
  obtain ⟨j, hlt, rfl⟩ := List.getElem_of_mem hu
  rw [Array.length_toList, size_zeroCells] at hlt
  have hpos : 0 < z.cells.size := Nat.pos_of_ne_zero fun h0 => by rw [h0] at hlt; simp at hlt
  refine hz1 _ ?_
  simp only [Builtin.zeroCells, Array.getElem_toList, Array.getElem_map, Array.getElem_range]
  have hm' := Nat.mod_lt j hpos
  rw [getElem!_pos z.cells _ hm']
  exact Array.mem_toList_iff.2 (Array.getElem_mem hm')
/-- append onto a row of one's own of some elements. -/
theorem oc_appendA {x y : Operand} {U : Ty} {L' : Value → List Res} (k : Nat) (hL : L[k]? = some (ownA g c e sz f l)) (hx : Opd E x = some (Is (slAt g l.length c))) (hy : Opd E y = some U) (hs : Sub U (TSl sz f m))
    (hu : P.underlying t = some (.slice e)) (hinf : (P.info? e).map (fun i => (i.zero, i.size, i.bytes)) = some (some z, sz, by_)) (hz1 : z.cells.toList.all Value.oneCell' = true) (hzc : z.cells.size = sz) (hb1 : Nat.ble by_ 1024 = true) (hl : 0 < m.length ∧ l.length + m.length ≤ 137438953472) (hL' : ∀ v, L.set k (ownA (sblk v) (scap v) e sz f (l ++ m)) = L' v) :
    OpC P L E ⟨dst, .call { callee := .builtin .append, args := #[x, y], argTypes := #[t, t] }, ty, pos, after, gd⟩ (fun v => Is (slAt (sblk v) (l ++ m).length (scap v))) L' := by
  have hLe : L' = fun v => L.set k (ownA (sblk v) (scap v) e sz f (l ++ m)) := by funext v; exact (hL' v).symm
  subst hLe
  obtain ⟨hb, hm⟩ := upto_bytes hb1 hl.2
  intro a w G S hsat ho ht K Q kk
  have hxx : a.eval x = slAt g l.length c := ht x (by simp [Op.operands, Call.operands]) _ hx
  rw [slAt_def] at hxx
  have hyy := hs _ _ (ht y (by simp [Op.operands, Call.operands]) _ hy)
  obtain ⟨inf, hi, hiz, his, hib⟩ := info_parts hinf
  obtain ⟨ax, capx, ex, hlcx, hcmx, -, hnilx, hadx⟩ := hyy
  obtain ⟨k1, k2, k3, rest, k4, kS, ⟨cur, kc, kcs, kv⟩, kfree⟩ := ho.res k _ hL
  have hk : k < L.length := (List.getElem?_eq_some_iff.1 hL).1
  have hgS : S k g := (kS g).2 rfl
  cases ax with
  | none => have := hnilx rfl; omega
  | some adx =>
    obtain ⟨hspx, helx⟩ := hadx adx rfl
    have hfm : ∀ y ∈ m, (f y).length = sz := fun y hy => by
      obtain ⟨k, hk, e⟩ := List.getElem_of_mem hy
      exact (helx k y (by rw [List.getElem?_eq_getElem hk, e])).1
    have hflm : ∀ y ∈ l ++ m, (f y).length = sz := fun y hy => (List.mem_append.1 hy).elim (k1 y) (hfm y)
    obtain ⟨news, hnl, hnG, hnT⟩ := sl_values (b := adx.block) (o := adx.off) (f := f) (sz := sz) (l := m) (G := G) helx
    have hnews : ∀ (j : Nat) (u : Value), news[j]? = some u → w.cell? (adx.add j) = some u := by
      intro j u hj
      have hcell := hsat _ _ _ (hnG j u hj).1
      have hspx := hspx hl.1
      obtain ⟨b, o, sp⟩ := adx
      simp only at hspx; subst hspx
      unfold Addr.add
      split
      · subst j; simpa using hcell
      · simpa using hcell
    have hnews1 : ∀ u ∈ news, u.oneCell' = true := fun u hu => by
      obtain ⟨j, hj, e⟩ := List.getElem_of_mem hu
      exact (hnG j u (by rw [List.getElem?_eq_getElem hj, e])).2
    have hsmall : ((l.length + m.length : Nat) : Int) ≤ 9223372036854775807 := by simp only [maxLen] at hm; omega
    have hcl : l.length * sz ≤ cur.size := by rw [kcs, List.length_append, flat_length k1]; omega
    have hcur1 : ∀ u ∈ cur.toList, u.oneCell' = true := fun u hu => by
      obtain ⟨j, hj, e⟩ := List.getElem_of_mem hu
      rw [Array.length_toList, kcs] at hj
      obtain ⟨u', q1, _, q3⟩ := kv j _ (List.getElem?_eq_getElem hj)
      have : cur[j]? = some u := by rw [← e]; simp
      rw [this] at q1; cases q1; exact q3
    have hold : ∀ (i : Nat) (y : α), l[i]? = some y → ∀ (j : Nat) (T : Ty), (f y)[j]? = some T → ∃ u, cur[i * sz + j]? = some u ∧ T.p G u := fun i y hy j T hT => by
      obtain ⟨u, q1, q2, _⟩ := kv (i * sz + j) T (flat_get k1 hy hT)
      exact ⟨u, q1, q2⟩
    have hboth : ∀ xs : List Value, xs.length = l.length * sz → (∀ j u, j < l.length * sz → cur[j]? = some u → xs[j]? = some u) → ∀ (i : Nat) (y : α), (l ++ m)[i]? = some y → ∀ (j : Nat) (T : Ty), (f y)[j]? = some T → ∃ u, (xs ++ news)[i * sz + j]? = some u ∧ T.p G u := by
      intro xs hxl hxc i y hy j T hT
      by_cases hil : i < l.length
      · rw [List.getElem?_append_left hil] at hy
        obtain ⟨u, q1, q2⟩ := hold i y hy j T hT
        have hjl := (List.getElem?_eq_some_iff.1 hT).1
        rw [k1 y (List.mem_of_getElem? hy)] at hjl
        have hlt : i * sz + j < l.length * sz := by
          have : (i + 1) * sz ≤ l.length * sz := Nat.mul_le_mul_right _ hil
          rw [Nat.succ_mul] at this; omega
        refine ⟨u, ?_, q2⟩
        rw [List.getElem?_append_left (by omega)]
        exact hxc _ u hlt q1
      · rw [List.getElem?_append_right (by omega)] at hy
        obtain ⟨u, q1, q2, q3⟩ := hnT _ _ hy j T hT
        refine ⟨u, ?_, q2⟩
        have hge : l.length * sz ≤ i * sz := Nat.mul_le_mul_right _ (by omega)
        rw [List.getElem?_append_right (by omega), hxl, ← q1, Nat.sub_mul]
        congr 1; omega
    by_cases hfit : l.length + m.length ≤ c
    · -- in place
      have hst := run_storeCells_at (P := P) g (l.length * sz) e news 0 cur w kc (by
        rw [hnl, kcs, k4, Nat.add_zero, ← Nat.add_mul]; exact Nat.mul_le_mul_right _ hfit) hnews1
      rw [Nat.add_zero] at hst
      have hmf := run_firstCells_some (P := P) w sz m.length adx m.length capx news hnl (by simpa using hnews)
      have hr : (Builtin.append_ #[t, t] ty #[a.eval x, a.eval y]).run P w = .ok (.slice (some ⟨g, 0, none⟩) (l.length + m.length) c) (w.setRow g (cur.toList.take (l.length * sz) ++ news ++ cur.toList.drop (l.length * sz + news.length)).toArray) := by
        rw [hxx, ex]
        have hadd : (⟨g, 0, none⟩ : Addr).add (l.length * sz) = ⟨g, l.length * sz, none⟩ := by
          unfold Addr.add
          split
          · rename_i h0; rw [h0]
          · simp
        simp only [Builtin.append_]
        simp [run_underlying hu, sizeOf, typeInfo, hi, Builtin.lenOf, hfit, his, hadd]
        rw [hmf]
        simp [hst]
      have hrun : (execOp a.eval (⟨dst, .call { callee := .builtin .append, args := #[x, y], argTypes := #[t, t] }, ty, pos, after, gd⟩ : Oper)).run P w = .ok (.value (.slice (some ⟨g, 0, none⟩) (l.length + m.length) c)) (w.setRow g (cur.toList.take (l.length * sz) ++ news ++ cur.toList.drop (l.length * sz + news.length)).toArray) := by
        simp only [execOp, resolve]
        simp [invoke, builtin, hr]
      have ho1 : Owns S (L.set k (ownP g e (l.flatMap f ++ rest))) G w := ho.put hL ⟨kS, ⟨cur, kc, kcs, kv⟩, kfree⟩
      obtain ⟨b1, b2, b3⟩ := Owns.write (ts' := (l ++ m).flatMap f ++ rest.drop (m.length * sz)) hsat ho1 (set_at hL) (cs' := (cur.toList.take (l.length * sz) ++ news ++ cur.toList.drop (l.length * sz + news.length)).toArray) kc (by
        have : cur.size = l.length * sz + rest.length := by rw [kcs, List.length_append, flat_length k1]
        simp only [List.size_toArray, List.length_append, List.length_take, List.length_drop, Array.length_toList, flat_length hflm, hnl, Nat.add_mul]
        have : (l.length + m.length) * sz ≤ c * sz := Nat.mul_le_mul_right _ hfit
        rw [Nat.add_mul, ← k4, List.length_append, flat_length k1] at this
        omega) (by
        intro j U hj
        simp only [List.getElem?_toArray]
        by_cases hjl : j < (l.length + m.length) * sz
        · rw [List.getElem?_append_left (by rw [flat_length hflm, List.length_append]; exact hjl)] at hj
          have hsz0 : 0 < sz := Nat.pos_of_ne_zero fun h0 => by rw [h0] at hjl; simp at hjl
          have hdj : j / sz < (l ++ m).length := by rw [List.length_append]; exact (Nat.div_lt_iff_lt_mul hsz0).2 hjl
          have hej : j = j / sz * sz + j % sz := by rw [Nat.mul_comm]; exact (Nat.div_add_mod j sz).symm
          have hrow := List.getElem?_eq_getElem hdj
          have hmod : j % sz < (f (l ++ m)[j / sz]).length := by rw [hflm _ (List.getElem_mem hdj)]; exact Nat.mod_lt _ hsz0
          have hfg := flat_get (rest := []) hflm hrow (List.getElem?_eq_getElem hmod)
          rw [← hej, List.append_nil] at hfg
          rw [hfg] at hj
          cases hj
          obtain ⟨u, q1, q2⟩ := hboth (cur.toList.take (l.length * sz)) (by simp; omega) (fun j u hjj hu => by rw [List.getElem?_take, if_pos hjj]; simpa using hu) _ _ hrow (j % sz) _ (List.getElem?_eq_getElem hmod)
          rw [← hej] at q1
          refine ⟨u, ?_, q2, ?_⟩
          · rw [List.getElem?_append_left (by rw [List.length_append, List.length_take, tlSz cur, hnl, Nat.min_eq_left hcl, ← Nat.add_mul]; exact hjl)]; exact q1
          · have := List.mem_of_getElem? q1
            rcases List.mem_append.1 this with h | h
            · exact hcur1 u (List.mem_of_mem_take h)
            · exact hnews1 u h
        · rw [List.getElem?_append_right (by rw [flat_length hflm, List.length_append]; omega), List.getElem?_drop, flat_length hflm, List.length_append] at hj
          have hk2 : (l.flatMap f ++ rest)[j]? = some U := by
            rw [List.getElem?_append_right (by rw [flat_length k1]; rw [Nat.add_mul] at hjl; omega), flat_length k1, ← hj]
            congr 1
            rw [Nat.add_mul] at hjl ⊢; omega
          obtain ⟨u, q1, q2, q3⟩ := kv j U hk2
          refine ⟨u, ?_, q2, q3⟩
          rw [List.getElem?_append_right (by rw [List.length_append, List.length_take, tlSz cur, hnl, Nat.min_eq_left hcl, ← Nat.add_mul]; omega), List.getElem?_drop]
          rw [← q1, List.length_append, List.length_take, tlSz cur, hnl, Nat.min_eq_left hcl]
          rw [show l.length * sz + m.length * sz + (j - (l.length * sz + m.length * sz)) = j by rw [Nat.add_mul] at hjl; omega]
          simp)
      simp only [Oper.wp, hrun, Oper.upon_value]
      have hget : ((L.set k (ownP g e (l.flatMap f ++ rest))).set k (ownP g e ((l ++ m).flatMap f ++ rest.drop (m.length * sz))))[k]? = some (ownP g e ((l ++ m).flatMap f ++ rest.drop (m.length * sz))) := set_at (set_at hL)
      have hres := b2.res k _ hget
      have hfin := b2.put (R' := ownA g c e sz f (l ++ m)) hget ⟨hflm, by rw [List.length_append]; exact hfit, k3, _, by
        rw [List.length_append, flat_length hflm, List.length_drop, List.length_append, Nat.add_mul]
        have : (l.length + m.length) * sz ≤ c * sz := Nat.mul_le_mul_right _ hfit
        rw [List.length_append, flat_length k1] at k4
        rw [Nat.add_mul] at this
        omega, hres⟩
      refine kk (.slice (some ⟨g, 0, none⟩) (l.length + m.length) c) _ G _ b1 ?_ b3 ?_
      · simpa [sblk, scap] using hfin
      · show _ = slAt g (l ++ m).length c
        rw [slAt_def, List.length_append]
    · -- a new block
      have hr := run_append_grow (P := P) w t ty e inf z hu hi hiz ⟨g, 0, none⟩ l.length c (cur.toList.take (l.length * sz)) (by rw [his, List.length_take, tlSz cur]; omega) (fun j u hj => by
        rw [List.getElem?_take] at hj
        split at hj
        · have hcu : cur[j]? = some u := by simpa using hj
          have hcell : w.cell? ⟨g, j, none⟩ = some u := by simp [World.cell?, kc, hcu]
          unfold Addr.add
          split
          · subst j; simpa using hcell
          · simpa using hcell
        · cases hj) adx m.length capx news (by rw [his]; exact hnl) hnews (by omega) hsmall (growslice_fits (by omega) (by rw [hib]; exact hb))
      rw [← ex, ← hxx] at hr
      have hrun : (execOp a.eval (⟨dst, .call { callee := .builtin .append, args := #[x, y], argTypes := #[t, t] }, ty, pos, after, gd⟩ : Oper)).run P w = .ok (.value (.slice (some ⟨w.heap.size, 0, none⟩) (l.length + m.length) (grownCap w (l.length + m.length) c e))) (w.drew.alloc (.cells ((cur.toList.take (l.length * sz)).toArray ++ news.toArray ++ Builtin.zeroCells z.cells (grownCap w (l.length + m.length) c e - (l.length + m.length))) e)) := by
        simp only [execOp, resolve]
        simp [invoke, builtin, hr]
      simp only [Oper.wp, hrun, Oper.upon_value]
      obtain ⟨q1, q2, q3⟩ := freshA (l := l ++ m) (f := f) (sz := sz) (c := grownCap w (l.length + m.length) c e) (e := e) (cs := (cur.toList.take (l.length * sz)).toArray ++ news.toArray ++ Builtin.zeroCells z.cells (grownCap w (l.length + m.length) c e - (l.length + m.length))) (w1 := w.drew.alloc (.cells ((cur.toList.take (l.length * sz)).toArray ++ news.toArray ++ Builtin.zeroCells z.cells (grownCap w (l.length + m.length) c e - (l.length + m.length))) e)) hsat rfl rfl rfl rfl hflm ⟨by rw [List.length_append]; exact grownCap_ge w _ c e, grownCap_le_maxLen w _ c e hm⟩ (by
        have hge := grownCap_ge w (l.length + m.length) c e
        simp only [Array.size_append, List.size_toArray, List.length_take, Array.length_toList, hnl, size_zeroCells, hzc, Nat.min_eq_left hcl]
        rw [← Nat.add_mul, ← Nat.add_mul, Nat.add_sub_cancel' hge]) (by
        intro u hu
        simp only [Array.toList_append] at hu
        rcases List.mem_append.1 hu with hu | hu
        · rcases List.mem_append.1 hu with hu | hu
          · exact hcur1 u (List.mem_of_mem_take hu)
          · exact hnews1 u hu
        · exact zero_one hz1 _ u hu) (by
        intro i y hy j T hT
        obtain ⟨u, q1, q2⟩ := hboth (cur.toList.take (l.length * sz)) (by simp; omega) (fun j u hjj hu => by rw [List.getElem?_take, if_pos hjj]; simpa using hu) i y hy j T hT
        refine ⟨u, ?_, q2⟩
        rw [Array.getElem?_append_left (by simp only [Array.size_append, List.size_toArray, ← List.length_append]; exact (List.getElem?_eq_some_iff.1 q1).1)]
        simpa using q1)
      have hown := ho.set q1 hk (fun b hb => hb.elim) (ownA w.heap.size (grownCap w (l.length + m.length) c e) e sz f (l ++ m)) (fun b => b = w.heap.size) (fun b hb => by subst hb; exact ⟨.inr (Nat.le_refl _), by omega⟩) q2
      refine kk (.slice (some ⟨w.heap.size, 0, none⟩) (l.length + m.length) (grownCap w (l.length + m.length) c e)) _ G _ ⟨q1.sat, q1.le, q1.os, q1.tape, q1.output, q1.size, fun b hb' _ => q1.blk b hb' (fun z => z)⟩ hown (fun i b hb' => ?_) ?_
      · by_cases hi : i = k
        · simp only [hi, if_true] at hb'; exact .inl (by omega)
        · simp only [hi, if_false] at hb'; exact .inr ⟨i, hb'⟩
      · show _ = slAt w.heap.size (l ++ m).length (grownCap w (l.length + m.length) c e)
        rw [slAt_def, List.length_append]
theorem oc_storeE' {β : Type} {x y : Operand} {i off : Nat} {F : β → Ty} {b : β} {t : TypeId} {L' : List Res} (k : Nat) (zh : Inhabited α) {upd : α → β → α} (zx : Opd E x = some (Is (pEl g sz i off))) (zL : L[k]? = some (ownA g c e sz f l)) (zs : SetF f off F upd) (zy : Opd E y = some (F b)) (z1 : One (F b)) (zz : (P.info? t).map (·.size) = some 1) (zi : i < l.length) (zt : Nat.blt off sz = true) (zE : L.set k (ownA g c e sz f (l.set i (upd (l.getD i default) b))) = L') :
    OpC P L E ⟨dst, .store t x y, ty, pos, after, gd⟩ (fun v => Is v) (fun _ => L') := oc_storeE k zs zx zL zy z1 zz zi zt zE
/-- What some rows of types are the types of. -/
def MapOf {α : Type} (f : α → List Ty) (tss : List (List Ty)) (m : List α) : Prop := tss = m.map f
theorem MapOf.nil {α : Type} {f : α → List Ty} : MapOf f [] [] := rfl
theorem MapOf.cons {α : Type} {f : α → List Ty} {ts : List Ty} {tss : List (List Ty)} {a : α} {m : List α} (h : ts = f a) (k : MapOf f tss m) : MapOf f (ts :: tss) (a :: m) := by unfold MapOf at k ⊢; rw [h, k]; rfl
theorem oc_appendAT {x y : Operand} {tss : List (List Ty)} {L' : Value → List Res} (k : Nat) (hL : L[k]? = some (ownA g c e sz f l)) (hx : Opd E x = some (Is (slAt g l.length c))) (hy : Opd E y = some (TSlX sz (fun ts : List Ty => ts) tss)) (hm : MapOf f tss m)
    (hu : P.underlying t = some (.slice e)) (hinf : (P.info? e).map (fun i => (i.zero, i.size, i.bytes)) = some (some z, sz, by_)) (hz1 : z.cells.toList.all Value.oneCell' = true) (hzc : z.cells.size = sz) (hb1 : Nat.ble by_ 1024 = true) (hl : 0 < m.length ∧ l.length + m.length ≤ 137438953472) (hL' : ∀ v, L.set k (ownA (sblk v) (scap v) e sz f (l ++ m)) = L' v) :
    OpC P L E ⟨dst, .call { callee := .builtin .append, args := #[x, y], argTypes := #[t, t] }, ty, pos, after, gd⟩ (fun v => Is (slAt (sblk v) (l ++ m).length (scap v))) L' := oc_appendA k hL hx hy (Sub.slxT hm) hu hinf hz1 hzc hb1 hl hL'
theorem op_indexAI {x i : Operand} {n : Nat} {m : Int} {k : IntKind} (hx : Opd E x = some (Is (slAt g n c))) (hi : Opd E i = some (okI k m)) (hu : P.underlying t = some (.slice e)) (hsz : P.cellsOf e = sz) (hinf : (P.info? e).isSome = true) (h : 0 ≤ m ∧ m < (n : Int)) : OpP P L E ⟨dst, .indexAddr t x i, ty, pos, after, gd⟩ (Is (pEl g sz m.toNat 0)) := by
  obtain ⟨q, rfl⟩ : ∃ q : Nat, m = (q : Int) := ⟨m.toNat, by omega⟩
  exact op_indexA hx hi hu hsz hinf (by omega)
/-- A literal: a row of one's own. -/
theorem oc_litA {nn d : Nat} {parts : Array (Nat × Operand)} {tss : List (List Ty)} {L' : Value → List Res} (hp : partsOk parts nn = true) (hx : PartsT E sz (partsOf parts) tss) (hu : P.underlying t = some (.slice e)) (hinf : (P.info? e).map (fun i => (i.zero, i.size, i.bytes)) = some (some z, sz, by_)) (hn : Nat.beq tss.length nn = true) (hb : nn * sz ≤ 16777216 ∧ nn ≤ 16777216) (hL' : ∀ v, L ++ [ownA (sblk v) (scap v) e sz (fun ts : List Ty => ts) tss] = L' v) :
    OpC P L E ⟨some d, .buildSlice t nn parts, ty, pos, after, gd⟩ (fun v => Is (slAt (sblk v) nn (scap v))) L' := by
  have hLe : L' = fun v => L ++ [ownA (sblk v) (scap v) e sz (fun ts : List Ty => ts) tss] := by funext v; exact (hL' v).symm
  subst hLe
  obtain ⟨p1, p2, p3⟩ := hx.lit
  have hn' := Nat.eq_of_beq_eq_true hn
  intro a w G S hs ho ht K Q k
  have hmem : ∀ x ∈ partsOf parts, x ∈ (⟨some d, .buildSlice t nn parts, ty, pos, after, gd⟩ : Oper).op.operands := by
    intro x hx'
    simp only [Op.operands]
    simpa [partsOf] using hx'
  obtain ⟨hlen, hvals⟩ := LitOk.vals (G := G) (a := a) _ tss p1 (fun x hx' T hT => ht x (hmem x hx') T hT)
  have hpo : parts.toList.map (·.1) = List.range nn := by simpa [partsOk] using hp
  have hparts : (parts.map fun (i, x) => (i, a.eval x)).toList = (((partsOf parts).map a.eval).zipIdx 0).map fun x => (x.2, x.1) := by
    apply List.ext_getElem?
    intro i
    have h1 := congrArg (fun q => q[i]?) hpo
    simp only [List.getElem?_map] at h1
    simp only [Array.toList_map, List.getElem?_map, List.getElem?_zipIdx, partsOf]
    cases hi : parts.toList[i]? with
    | none => simp
    | some q =>
      obtain ⟨k, x⟩ := q
      rw [hi] at h1
      simp only [Option.map_some] at h1
      have hin : i < nn := by
        rcases Nat.lt_or_ge i nn with h | h
        · exact h
        · rw [List.getElem?_eq_none (by simpa using h)] at h1; cases h1
      rw [List.getElem?_range hin] at h1
      simp only [Option.some.injEq] at h1
      subst h1
      simp
  have hvl : ((partsOf parts).map a.eval).length = nn := by rw [List.length_map, hlen, hn']
  have hcellsz : ∀ v ∈ (partsOf parts).map a.eval, v.cells.size = sz ∧ ∀ u ∈ v.cells.toList, u.oneCell' = true := fun v hv => by
    obtain ⟨i, hi, e⟩ := List.getElem_of_mem hv
    have hil : i < tss.length := by rw [hvl] at hi; omega
    obtain ⟨v', h1, h2, h3⟩ := hvals i tss[i] (List.getElem?_eq_getElem hil)
    rw [List.getElem?_eq_getElem hi, e] at h1
    cases h1
    refine ⟨?_, fun u hu => ?_⟩
    · rw [← Array.length_toList, h2]
      exact p3 _ (List.getElem_mem hil)
    · obtain ⟨j, hj, e⟩ := List.getElem_of_mem hu
      exact (h3 j _ u (List.getElem?_eq_getElem (by omega)) (by rw [List.getElem?_eq_getElem hj, e])).2
  obtain ⟨cs, hr, hcs, hcc⟩ := run_buildSlice (P := P) w hu hinf ((partsOf parts).map a.eval) _ hparts (fun v hv => (hcellsz v hv).1) (by rw [hvl]; exact hb.1)
  rw [hvl] at hr hcs
  have hrun : (execOp a.eval ⟨some d, .buildSlice t nn parts, ty, pos, after, gd⟩).run P w = .ok (.value (.slice (some ⟨w.heap.size, 0, none⟩) nn nn)) (w.alloc (.cells cs e)) := by
    simp only [execOp]
    simp [hr]
  obtain ⟨q1, q2, q3⟩ := freshA (l := tss) (f := fun ts : List Ty => ts) (sz := sz) (c := nn) (e := e) (cs := cs) (w1 := w.alloc (.cells cs e)) hs rfl rfl rfl rfl p3 ⟨by omega, by simp only [maxLen]; omega⟩ hcs (by
    intro u hu
    obtain ⟨j, hj, e⟩ := List.getElem_of_mem hu
    rw [Array.length_toList, hcs] at hj
    have hsz0 : 0 < sz := Nat.pos_of_ne_zero fun h0 => by rw [h0] at hj; simp at hj
    have hdj : j / sz < nn := (Nat.div_lt_iff_lt_mul hsz0).2 hj
    have hej : j = j / sz * sz + j % sz := by rw [Nat.mul_comm]; exact (Nat.div_add_mod j sz).symm
    have hmem := List.getElem_mem (l := (partsOf parts).map a.eval) (n := j / sz) (by rw [hvl]; exact hdj)
    obtain ⟨c1, c2⟩ := hcellsz _ hmem
    have hmod := Nat.mod_lt j hsz0
    obtain ⟨q, hq⟩ : ∃ q, (((partsOf parts).map a.eval)[j / sz]'(by rw [hvl]; exact hdj)).cells.toList[j % sz]? = some q := ⟨_, List.getElem?_eq_getElem (by rw [tlSz, c1]; exact hmod)⟩
    have := hcc (j / sz) _ (List.getElem?_eq_getElem (by rw [hvl]; exact hdj)) (j % sz) q hq
    rw [← hej] at this
    have hu2 : cs[j]? = some u := by rw [← e]; simp
    rw [hu2] at this
    cases this
    exact c2 _ (List.mem_of_getElem? hq)) (fun i y hy j T hT => by
    obtain ⟨v, h1, h2, h3⟩ := hvals i y hy
    have hjl := (List.getElem?_eq_some_iff.1 hT).1
    obtain ⟨u, hu'⟩ : ∃ u, v.cells.toList[j]? = some u := ⟨_, List.getElem?_eq_getElem (by omega)⟩
    exact ⟨u, by simpa using hcc i v h1 j u hu', (h3 j T u hT hu').1⟩)
  simp only [Oper.wp, hrun, Oper.upon_value]
  refine k (.slice (some ⟨w.heap.size, 0, none⟩) nn nn) _ G _ ⟨q1.sat, q1.le, q1.os, q1.tape, q1.output, q1.size, fun b hb' _ => q1.blk b hb' (fun z => z)⟩ (ho.snoc q1 _ (fun b => b = w.heap.size) (fun b e => ⟨by omega, by omega⟩) q2) (fun i b hb' => ?_) ?_
  · by_cases hi : i = L.length
    · simp only [hi, if_true] at hb'; exact .inl (by omega)
    · simp only [hi, if_false] at hb'; exact .inr ⟨i, hb'⟩
  · show _ = slAt w.heap.size nn nn
    rw [slAt_def]
/-- Where a row of one's own is to be: slots of literals. -/
structure MutA (ds : List Nat) : Prop where
  h : True
theorem MutA.mk' (ds : List Nat) : MutA ds := ⟨trivial⟩
theorem oc_litMA {op : Op} {d : Nat} {ds : List Nat} {T : Value → Ty} {L' : Value → List Res} (hm : MutA ds) (hmd : ds.any (Nat.beq d) = true) (h : OpC P L E ⟨some d, op, ty, pos, after, gd⟩ T L') : OpC P L E ⟨some d, op, ty, pos, after, gd⟩ T L' := h
/-! ### room that holds nothing yet -/
theorem digits_mem : ∀ (n t : Nat) (acc : Array Value), (∀ u ∈ acc.toList, u.oneCell' = true) → ∀ u ∈ (Extern.BytealgMakeNoZero.digits n t acc).toList, u.oneCell' = true
  | 0, _, _, h => h
  | n + 1, t, acc, h => by
    rw [Extern.BytealgMakeNoZero.digits]
    refine digits_mem n _ _ fun u hu => ?_
    rw [Array.toList_push] at hu
    rcases List.mem_append.1 hu with hu | hu
    · exact h u hu
    · rw [List.mem_singleton.1 hu]; rfl
theorem digits_size : ∀ (n t : Nat) (acc : Array Value), (Extern.BytealgMakeNoZero.digits n t acc).size = acc.size + n
  | 0, _, _ => rfl
  | n + 1, t, acc => by
    rw [Extern.BytealgMakeNoZero.digits, digits_size n]
    simp
    omega
/-- What internal/bytealg.MakeNoZero is. -/
def MkNZ (P : Program) (f : FuncId) (e : TypeId) : Prop := ∀ (n : Nat) (w : World), n ≤ 281474976710656 → ∃ cs : Array Value, (callFunc f #[.int .i64 n]).run P w = .ok (.value (.slice (some ⟨w.heap.size, 0, none⟩) n cs.size)) (w.drew.drew.alloc (.cells cs e)) ∧ n ≤ cs.size ∧ (n ≤ maxLen → cs.size ≤ maxLen) ∧ ∀ u ∈ cs.toList, u.oneCell' = true
theorem MkNZ.of {f : FuncId} {fn : Func} (hf : P.funcs[f]? = some fn) (hname : (fn.name == "runtime.NumGoroutine") = false) (hb : fn.body.isNone = true) (hn : Extern.findNext fn = none) {ps : Array TypeId} (he : Extern.find fn = some (Extern.BytealgMakeNoZero.makeNoZero ps #[t])) (hu : P.underlying t = some (.slice e)) : MkNZ P f e := fun n w hle => by
  have hdef : Extern.BytealgMakeNoZero.makeNoZero ps #[t] #[.int .i64 n] =
      (do
        let .slice elem ← underlying t | stuck "bytealg.MakeNoZero: slice type expected"
        if (n : Int) < 0 || (n : Int) > 2 ^ 48 then runtimePanic (.error "makeslice: len out of range")
        let cap ← choose (.appendCap (n : Int).toNat 0 elem)
        askRoom cap
        let bytes ← choose (.extern "internal/bytealg.MakeNoZero.bytes" 0)
        let a ← newRow elem (Extern.BytealgMakeNoZero.digits cap bytes #[])
        pure (.slice (some a) (n : Int).toNat cap)) := rfl
  refine ⟨Extern.BytealgMakeNoZero.digits (grownCap w n 0 e) ((Question.extern "internal/bytealg.MakeNoZero.bytes" 0).cut (w.tape (w.drawn + 1) (.extern "internal/bytealg.MakeNoZero.bytes" 0))) #[], ?_, ?_, ?_, digits_mem _ _ _ (by simp)⟩
  · rw [run_callFunc_extern hf hname hb hn he, hdef]
    have h1 : ¬ (n : Int) < 0 := by omega
    have h2 : ¬ (281474976710656 : Int) < (n : Int) := by omega
    simp [run_underlying hu, h1, h2, Question.forced, newRow, digits_size, grownCap]
  · rw [digits_size]
    simpa using grownCap_ge w n 0 e
  · intro hm
    rw [digits_size]
    simpa using grownCap_le_maxLen w n 0 e hm
theorem oc_makeNoZero {x : Operand} {F : FuncId} {n : Int} {tys : Array TypeId} {L' : Value → List Res} (hf : MkNZ P F e) (hx : Opd E x = some (okI .i64 n)) (hb : 0 ≤ n ∧ n ≤ 140737488355328) (hL' : ∀ v, L ++ [ownA (sblk v) (scap v) e 1 (fun ts : List Ty => ts) []] = L' v) :
    OpC P L E ⟨dst, .call { callee := .value (.func F), args := #[x], argTypes := tys }, ty, pos, after, gd⟩ (fun v => Is (slAt (sblk v) n.toNat (scap v))) L' := by
  have hLe : L' = fun v => L ++ [ownA (sblk v) (scap v) e 1 (fun ts : List Ty => ts) []] := by funext v; exact (hL' v).symm
  subst hLe
  intro a w G S hsat ho ht K Q kk
  have hxx : a.eval x = .int .i64 n := (ht x (by simp [Op.operands, Call.operands]) _ hx)
  obtain ⟨m, rfl⟩ : ∃ m : Nat, n = (m : Int) := ⟨n.toNat, by omega⟩
  obtain ⟨cs, hr, h1, h2, h3⟩ := hf m w (by omega)
  have h2' : cs.size ≤ maxLen := h2 (by simp only [maxLen]; omega)
  have hrun : (execOp a.eval (⟨dst, .call { callee := .value (.func F), args := #[x], argTypes := tys }, ty, pos, after, gd⟩ : Oper)).run P w = .ok (.value (.slice (some ⟨w.heap.size, 0, none⟩) m cs.size)) (w.drew.drew.alloc (.cells cs e)) := by
    simp only [execOp, resolve]
    simp [Deferred.ofValue, Act.eval, invoke]
    have h0 : a.eval x = .int .i64 m := hxx
    unfold Act.eval at h0
    cases x <;> simp at h0 ⊢ <;> (try rw [h0]) <;> exact hr
  simp only [Oper.wp, hrun, Oper.upon_value]
  obtain ⟨q1, q2, q3⟩ := freshA (l := ([] : List (List Ty))) (f := fun ts : List Ty => ts) (sz := 1) (c := cs.size) (e := e) (cs := cs) (w1 := w.drew.drew.alloc (.cells cs e)) hsat rfl rfl rfl rfl (by simp) ⟨by simp, h2'⟩ (by simp) h3 (by simp)
  refine kk (.slice (some ⟨w.heap.size, 0, none⟩) m cs.size) _ G _ ⟨q1.sat, q1.le, q1.os, q1.tape, q1.output, q1.size, fun b hb' _ => q1.blk b hb' (fun z => z)⟩ (ho.snoc q1 _ (fun b => b = w.heap.size) (fun b e => ⟨by omega, by omega⟩) q2) (fun i b hb' => ?_) ?_
  · by_cases hi : i = L.length
    · simp only [hi, if_true] at hb'; exact .inl (by omega)
    · simp only [hi, if_false] at hb'; exact .inr ⟨i, hb'⟩
  · show _ = slAt w.heap.size ((m : Int)).toNat cs.size
    rw [slAt_def, Int.toNat_natCast]
/-- A shorter or longer slice of the same room. -/
theorem op_sliceHA {x o' : Operand} {n : Nat} {m : Int} {k' : IntKind} (hx : Opd E x = some (Is (slAt g n c))) (hu : P.underlying t = some (.slice e)) (hinf : (P.info? e).isSome = true) (hhi : Opd E o' = some (okI k' m)) (h : 0 ≤ m ∧ m ≤ (c : Int)) :
    OpP P L E ⟨dst, .slice t x none (some o') none, ty, pos, after, gd⟩ (Is (slAt g m.toNat c)) :=
  OpP.same fun a w G S _ _ ho => by
    have h1 : a.eval x = slAt g n c := ho x (by simp [Op.operands]) _ hx
    have h2 : a.eval o' = .int k' m := (ho o' (by simp [Op.operands]) _ hhi)
    obtain ⟨inf, hi⟩ := Option.isSome_iff_exists.1 hinf
    refine ⟨slAt g m.toNat c, ?_, rfl⟩
    rw [slAt_def] at h1 ⊢
    have hc : (if c = 0 then some (⟨g, 0, none⟩ : Addr) else some ((⟨g, 0, none⟩ : Addr).add 0)) = some ⟨g, 0, none⟩ := by split <;> rfl
    simp only [execOp, h1]
    simp [Instr.sliceAt, Instr.slice, Instr.sliceBounds, Instr.sliceBound, run_underlying hu, sizeOf, typeInfo, hi, h2, h.1, h.2, asIntOf]
    try (intro _; rfl)
theorem op_capNil {x : Operand} {T : Ty} (hx : Opd E x = some (TAnd (Is (.slice none 0 0)) T)) (hu : P.underlying t = some (.slice e)) : OpP P L E ⟨dst, .call { callee := .builtin .cap, args := #[x], argTypes := #[t] }, ty, pos, after, gd⟩ (okI .i64 0) :=
  OpP.same fun a w G S _ _ ho => by
    have h1 : a.eval x = .slice none 0 0 := (ho x (by simp [Op.operands, Call.operands]) _ hx).1
    refine ⟨.int .i64 0, ?_, rfl⟩
    simp only [execOp, resolve]
    simp [invoke, builtin, Builtin.cap_, h1, run_underlying hu, goInt]
theorem op_copy0 {x y : Operand} {n : Nat} {T : Ty} {t2 : TypeId} (hx : Opd E x = some (Is (slAt g n c))) (hy : Opd E y = some (TAnd (Is (.slice none 0 0)) T)) (hu : P.underlying t = some (.slice e)) (hinf : (P.info? e).isSome = true) : OpP P L E ⟨dst, .call { callee := .builtin .copy, args := #[x, y], argTypes := #[t, t2] }, ty, pos, after, gd⟩ (okI .i64 0) :=
  OpP.same fun a w G S _ _ ho => by
    have h1 : a.eval x = slAt g n c := ho x (by simp [Op.operands, Call.operands]) _ hx
    have h2 : a.eval y = .slice none 0 0 := (ho y (by simp [Op.operands, Call.operands]) _ hy).1
    obtain ⟨inf, hi⟩ := Option.isSome_iff_exists.1 hinf
    rw [slAt_def] at h1
    refine ⟨.int .i64 0, ?_, rfl⟩
    simp only [execOp, resolve]
    simp [invoke, builtin, Builtin.copy_, h1, h2, run_underlying hu, goInt, Builtin.lenOf, sizeOf, typeInfo, hi, Builtin.firstCells, storeCells]
theorem op_capNil' {x : Operand} (hx : Opd E x = some (Is (.slice none 0 0))) (hu : P.underlying t = some (.slice e)) : OpP P L E ⟨dst, .call { callee := .builtin .cap, args := #[x], argTypes := #[t] }, ty, pos, after, gd⟩ (okI .i64 0) :=
  OpP.same fun a w G S _ _ ho => by
    have h1 : a.eval x = .slice none 0 0 := ho x (by simp [Op.operands, Call.operands]) _ hx
    refine ⟨.int .i64 0, ?_, rfl⟩
    simp only [execOp, resolve]
    simp [invoke, builtin, Builtin.cap_, h1, run_underlying hu, goInt]
theorem op_lenNil {x : Operand} (hx : Opd E x = some (Is (.slice none 0 0))) (hu : P.underlying t = some (.slice e)) : OpP P L E ⟨dst, .call { callee := .builtin .len, args := #[x], argTypes := #[t] }, ty, pos, after, gd⟩ (okI .i64 0) :=
  OpP.same fun a w G S _ _ ho => by
    have h1 : a.eval x = .slice none 0 0 := ho x (by simp [Op.operands, Call.operands]) _ hx
    refine ⟨.int .i64 0, ?_, rfl⟩
    simp only [execOp, resolve]
    simp [invoke, builtin, Builtin.len_, h1, run_underlying hu, goInt, Builtin.lenOf]
/-- A call that hands back rows of one's own. -/
theorem oc_callA {α : Type} {f : FuncId} {A : List Ty} {sz n : Nat} {fa : α → List Ty} {l : List α} {xs : List Operand} {tys : Array TypeId} {L' : Value → List Res} (hf : CallsC P f A [] (fun v => Is (slAt (sblk v) n (scap v))) (fun v => [ownA (sblk v) (scap v) e sz fa l])) (zx : OpdsS E xs A) (zL : ∀ v, L ++ [ownA (sblk v) (scap v) e sz fa l] = L' v) :
    OpC P L E ⟨dst, .call { callee := .value (.func f), args := xs.toArray, argTypes := tys }, ty, pos, after, gd⟩ (fun v => Is (slAt (sblk v) n (scap v))) L' := by
  have := op_callR (P := P) (L := L) (E := E) (dst := dst) (ty := ty) (pos := pos) (after := after) (gd := gd) (tys := tys) (is := []) hf zx PickL.nil rfl (fun _ => Nat.zero_le _)
  simpa only [updL, zL] using this
/-- A call whose answer tells where what is one's own lies; behind a marker. -/
theorem oc_callG {f : FuncId} {A : List Ty} {d : Nat} {ds : List Nat} {T : Value → Ty} {R : Value → List Res} {xs : List Operand} {tys : Array TypeId} {L' : Value → List Res} (hm : Mut ds) (hmd : ds.any (Nat.beq d) = true) (hf : CallsC P f A [] T R) (zx : OpdsS E xs A) (zL : ∀ v, L ++ R v = L' v) :
    OpC P L E ⟨some d, .call { callee := .value (.func f), args := xs.toArray, argTypes := tys }, ty, pos, after, gd⟩ T L' := by
  have := op_callR (P := P) (L := L) (E := E) (dst := some d) (ty := ty) (pos := pos) (after := after) (gd := gd) (tys := tys) (is := []) hf zx PickL.nil rfl (fun _ => Nat.zero_le _)
  simpa only [updL, zL] using this
theorem sblk_at (g n c : Nat) : sblk (slAt g n c) = g := by rw [slAt_def]; rfl
theorem scap_at (g n c : Nat) : scap (slAt g n c) = c := by rw [slAt_def]; rfl
/-- Nothing of nothing. -/
theorem op_sliceNilH {x o' : Operand} {m : Int} {k' : IntKind} (hx : Opd E x = some (Is (.slice none 0 0))) (hu : P.underlying t = some (.slice e)) (hinf : (P.info? e).isSome = true) (hhi : Opd E o' = some (okI k' m)) (h : m = 0) :
    OpP P L E ⟨dst, .slice t x none (some o') none, ty, pos, after, gd⟩ (Is (.slice none 0 0)) :=
  OpP.same fun a w G S _ _ ho => by
    subst h
    have h1 : a.eval x = .slice none 0 0 := ho x (by simp [Op.operands]) _ hx
    have h2 : a.eval o' = .int k' 0 := (ho o' (by simp [Op.operands]) _ hhi)
    obtain ⟨inf, hi⟩ := Option.isSome_iff_exists.1 hinf
    refine ⟨.slice none 0 0, ?_, rfl⟩
    simp only [execOp, h1]
    simp [Instr.sliceAt, Instr.slice, Instr.sliceBounds, Instr.sliceBound, run_underlying hu, sizeOf, typeInfo, hi, h2, asIntOf]
theorem zero_all (hz1 : z.cells.toList.all Value.oneCell' = true) (n : Nat) : ∀ u ∈ (Builtin.zeroCells z.cells n).toList, u.oneCell' = true := zero_one hz1 n
/-- So many zeros behind nothing: room of one's own. -/
theorem oc_appendZ {x y : Operand} {n : Int} {t2 : TypeId} {kn : IntKind} {by2 : Nat} {L' : Value → List Res} (hx : Opd E x = some (Is (.slice none 0 0))) (hy : Opd E y = some (okI .i64 n)) (hu : P.underlying t = some (.slice e)) (hu2 : P.underlying t2 = some (.int kn)) (hinf : (P.info? e).map (fun i => (i.zero, i.size, i.bytes)) = some (some z, 1, by2)) (hz1 : z.cells.toList.all Value.oneCell' = true) (hzc : z.cells.size = 1) (hb1 : Nat.ble by2 1024 = true) (h : 0 < n ∧ n ≤ 137438953472) (hL' : ∀ v, L ++ [ownA (sblk v) (scap v) e 1 (fun ts : List Ty => ts) []] = L' v) :
    OpC P L E ⟨dst, .call { callee := .builtin .append, args := #[x, y], argTypes := #[t, t2] }, ty, pos, after, gd⟩ (fun v => Is (slAt (sblk v) n.toNat (scap v))) L' := by
  have hLe : L' = fun v => L ++ [ownA (sblk v) (scap v) e 1 (fun ts : List Ty => ts) []] := by funext v; exact (hL' v).symm
  subst hLe
  intro a w G S hsat ho ht K Q kk
  have hxx : a.eval x = .slice none 0 0 := ht x (by simp [Op.operands, Call.operands]) _ hx
  have hyy : a.eval y = .int .i64 n := ht y (by simp [Op.operands, Call.operands]) _ hy
  obtain ⟨k, rfl⟩ : ∃ m : Nat, n = (m : Int) := ⟨n.toNat, by omega⟩
  obtain ⟨inf, hi, hiz, his, hib⟩ := info_parts hinf
  have hk0 : 0 < k := by omega
  have hb2 : by2 ≤ 1024 := Nat.le_of_ble_eq_true hb1
  have hcap : Builtin.nextslicecap (0 + k) 0 = k := by
    unfold Builtin.nextslicecap; simp; omega
  have hmul : k * inf.bytes ≤ 137438953472 * 1024 := Nat.mul_le_mul (by omega) (by rw [hib]; exact hb2)
  have hold : (Builtin.firstCells inf.size 0 (.slice none 0 0)).run P w.drew = .ok ([] : List Value).toArray w.drew := run_firstCells_none w.drew inf.size 0 0 0
  have hr0 := Go.Lib.run_append_grow_zeros w t t2 ty e inf z .i64 kn hu hu2 hi hiz none 0 0 [] hold k hk0 (by omega) (by omega) (by omega) (by omega) (by rw [hcap]; omega)
  have hrun : (execOp a.eval (⟨dst, .call { callee := .builtin .append, args := #[x, y], argTypes := #[t, t2] }, ty, pos, after, gd⟩ : Oper)).run P w = .ok (.value (.slice (some ⟨w.heap.size, 0, none⟩) (0 + k) (grownCap w (0 + k) 0 e))) (w.drew.alloc (.cells (([] : List Value).toArray ++ Builtin.zeroCells z.cells k ++ Builtin.zeroCells z.cells (grownCap w (0 + k) 0 e - (0 + k))) e)) := by
    simp only [execOp, resolve]
    simp only [invoke, builtin, Call.operands, List.map_toArray, List.map_cons, List.map_nil]
    simp [hxx, hyy, hr0]
  have hge := grownCap_ge w (0 + k) 0 e
  have hmx := grownCap_le_maxLen w (0 + k) 0 e (by simp only [maxLen]; omega)
  simp only [Oper.wp, hrun, Oper.upon_value]
  obtain ⟨q1, q2, q3⟩ := freshA (l := ([] : List (List Ty))) (f := fun ts : List Ty => ts) (sz := 1) (c := grownCap w (0 + k) 0 e) (e := e) (cs := (([] : List Value).toArray ++ Builtin.zeroCells z.cells k ++ Builtin.zeroCells z.cells (grownCap w (0 + k) 0 e - (0 + k)))) (w1 := w.drew.alloc (.cells (([] : List Value).toArray ++ Builtin.zeroCells z.cells k ++ Builtin.zeroCells z.cells (grownCap w (0 + k) 0 e - (0 + k))) e)) hsat rfl rfl rfl rfl (by simp) ⟨by simp, hmx⟩ (by
    simp only [Array.size_append, size_zeroCells, hzc, List.size_toArray, List.length_nil]; omega) (fun u hu => by
    simp only [Array.toList_append, List.mem_append] at hu
    rcases hu with (hu | hu) | hu
    · simp at hu
    · exact zero_one hz1 _ u hu
    · exact zero_one hz1 _ u hu) (by simp)
  refine kk (.slice (some ⟨w.heap.size, 0, none⟩) (0 + k) (grownCap w (0 + k) 0 e)) _ G _ ⟨q1.sat, q1.le, q1.os, q1.tape, q1.output, q1.size, fun b hb' _ => q1.blk b hb' (fun z => z)⟩ (ho.snoc q1 _ (fun b => b = w.heap.size) (fun b e => ⟨by omega, by omega⟩) q2) (fun i b hb' => ?_) ?_
  · by_cases hi : i = L.length
    · simp only [hi, if_true] at hb'; exact .inl (by omega)
    · simp only [hi, if_false] at hb'; exact .inr ⟨i, hb'⟩
  · show _ = slAt w.heap.size ((k : Int)).toNat (grownCap w (0 + k) 0 e)
    rw [slAt_def, Int.toNat_natCast, Nat.zero_add]
end
theorem CellsOf.slA (g n c : Nat) : CellsOf (Is (slAt g n c)) [Is (slAt g n c)] := CellsOf.is (by rw [slAt_def]; rfl) (by rw [slAt_def]; rfl)
theorem One.slA (g n c : Nat) : One (Is (slAt g n c)) := One.is (by rw [slAt_def]; rfl)
section
variable {P : Program} {F : FCtx} {E : Env} {L : List Res} {Q : Exit → Act → World → Prop} {code : Code} {g c : Nat} {e : TypeId}
/-- Room that holds nothing is a slice of one's own, in a variable of one's own. -/
theorem HT.roomP {g2 j : Nat} {e2 : TypeId} {ts : List Ty} (k k2 : Nat) (hL : L[k]? = some (ownA g c e 1 (fun ts : List Ty => ts) [])) (hL2 : L[k2]? = some (ownP g2 e2 ts)) (hj : ts[j]? = some (Is (slAt g 0 c))) (hne : Nat.beq k k2 = false) (h : HT F E ((L.set k (ownSl (.slice (some ⟨g, 0, none⟩) 0 c) 1 e)).set k2 (ownP g2 e2 (ts.set j (TAnd (Is (.slice (some ⟨g, 0, none⟩) 0 c)) (TBytes []))))) code Q) : HT F E L code Q := fun a w G S hi ht => by
  have hne' : k ≠ k2 := fun x => by rw [x, Nat.beq_refl] at hne; cases hne
  obtain ⟨h1, h2, h3, rest, h4, kS, ⟨cs, kc, kcs, kv⟩, kfree⟩ := hi.owns.res k _ hL
  have h4' : cs.size = c * 1 := by rw [kcs]; exact h4
  have ho1 := hi.owns.put (R' := ownSl (.slice (some ⟨g, 0, none⟩) 0 c) 1 e) hL (.inr ⟨g, 0, c, cs, rfl, kS, kc, Nat.zero_le _, h3, h4', fun o _ => kfree o⟩)
  have hL2' : (L.set k (ownSl (.slice (some ⟨g, 0, none⟩) 0 c) 1 e))[k2]? = some (ownP g2 e2 ts) := by rw [List.getElem?_set, if_neg hne']; exact hL2
  obtain ⟨q1, ⟨cs2, q2, q3, q4⟩, q5⟩ := ho1.res k2 _ hL2'
  refine h a w G _ ⟨hi.ext, ho1.put hL2' ⟨q1, ⟨cs2, q2, by simpa using q3, fun i T hT' => ?_⟩, q5⟩, hi.mine⟩ ht
  rw [List.getElem?_set] at hT'
  by_cases hij : j = i
  · subst hij
    have hjl := (List.getElem?_eq_some_iff.1 hj).1
    rw [if_pos rfl, if_pos hjl] at hT'
    cases hT'
    obtain ⟨u, a1, a2, a3⟩ := q4 j _ hj
    refine ⟨u, a1, ⟨?_, ?_⟩, a3⟩
    · have hu : u = slAt g 0 c := a2
      rw [hu, slAt_def]; rfl
    · have hu : u = slAt g 0 c := a2
      rw [hu, slAt_def]
      exact ⟨some ⟨g, 0, none⟩, c, rfl, Nat.zero_le _, h3, (fun x => by cases x), (fun x => by cases x), fun ad had => by
        cases had
        exact ⟨fun h => absurd h (by simp), fun i y hy => by simp at hy⟩⟩
  · rw [if_neg hij] at hT'
    exact q4 i T hT'
theorem Res.ext' {R R' : Res} (h : ∀ S G w, R.p S G w ↔ R'.p S G w) : R = R' := by
  obtain ⟨p, hp⟩ := R
  obtain ⟨q, hq⟩ := R'
  have : p = q := by funext S G w; exact propext (h S G w)
  subst this; rfl
/-- Rows of types, and rows of what they are the types of. -/
theorem ownA_map {α : Type} {sz : Nat} (f : α → List Ty) (l : List α) : ownA g c e sz (fun ts : List Ty => ts) (l.map f) = ownA g c e sz f l := by
  have h0 : (l.map f).flatMap (fun ts : List Ty => ts) = l.flatMap f := by
    induction l with
    | nil => rfl
    | cons a r ih => rw [List.map_cons, List.flatMap_cons, List.flatMap_cons, ih]
  refine Res.ext' fun S G w => ?_
  constructor
  · rintro ⟨h1, h2, h3, rest, h4, h5⟩
    rw [h0] at h4 h5
    exact ⟨fun a ha => h1 _ (List.mem_map.2 ⟨a, ha, rfl⟩), by simpa using h2, h3, rest, h4, h5⟩
  · rintro ⟨h1, h2, h3, rest, h4, h5⟩
    refine ⟨fun a ha => ?_, by simpa using h2, h3, rest, by rw [h0]; exact h4, by rw [h0]; exact h5⟩
    obtain ⟨b, hb, rfl⟩ := List.mem_map.1 ha
    exact h1 b hb
end
section
variable {P : Program} {L : List Res} {E : Env} {dst : Option Tmp} {ty : TypeId} {pos : String} {after : Array Edge} {gd : Option (Nat × Bool)}
theorem oc_storeAN {x y : Operand} {g o : Nat} {e : TypeId} {ts ts' us : List Ty} {t : TypeId} {L' : List Res} (i : Nat) (hx : Opd E x = some (Is (pAt g o))) (hL : L[i]? = some (ownP g e ts)) (hy : Opd E y = some (TAgg us)) (hsz : (P.info? t).map (·.size) = some us.length) (hlt : Nat.ble (o + us.length) ts.length = true) (ht : ts.take o ++ us ++ ts.drop (o + us.length) = ts') (hL' : L.set i (ownP g e ts') = L') :
    OpC P L E ⟨dst, .store t x y, ty, pos, after, gd⟩ (fun v => Is v) (fun _ => L') := op_storeAO i hx hy hL hsz rfl hlt ht hL'
end
section
variable {P : Program} {N : Nat} {w0 : World} {G0 : Imm} {S0 : Nat → Nat → Prop} {E : Env} {L : List Res} {fn : Func}
/-- A pointer to a new block is handed back, beside what was there. -/
theorem HX.finB2 {x : Exit} (he : endB x = true) {g : Nat} {e : TypeId} {ts : List Ty} {R : Res} {is : List (List Nat)} (hr : ResR P L E fn.results.toList [Is (pAt g 0)]) (hp : PickX L is [R, ownP g e ts]) (hd : distinct is.flatten = true) : HX (FC P N w0 G0 S0) E L (bodyPost P fn (RetR w0 G0 S0 (fun v => Is (pAt (blk v) 0)) (fun v => [R, ownP (blk v) e ts]))) x := HX.finP is (endB.or he) hr hd hp (Sub.refl _)
end
section
variable {P : Program} {L : List Res} {E : Env} {dst : Option Tmp} {ty : TypeId} {pos : String} {after : Array Edge} {gd : Option (Nat × Bool)}
/-- A call that turns what is one's own and hands back a pointer to a new block. -/
theorem oc_callNR {f : FuncId} {A : List Ty} {R R' : Res} {e : TypeId} {ts : List Ty} {xs : List Operand} {tys : Array TypeId} {is : List Nat} {L' : Nat → List Res} (hf : CallsC P f A [R] (fun v => Is (pAt (blk v) 0)) (fun v => [R', ownP (blk v) e ts])) (zx : OpdsS E xs A) (zp : PickL L is [R]) (zd : distinct is = true) (zl : Nat.ble is.length 2 = true) (zL : ∀ g, updL L is [R', ownP g e ts] = L' g) :
    OpC P L E ⟨dst, .call { callee := .value (.func f), args := xs.toArray, argTypes := tys }, ty, pos, after, gd⟩ (fun v => Is (pAt (blk v) 0)) (fun v => L' (blk v)) := by
  have := op_callR (P := P) (L := L) (E := E) (dst := dst) (ty := ty) (pos := pos) (after := after) (gd := gd) (tys := tys) hf zx zp zd (fun _ => Nat.le_of_ble_eq_true zl)
  simpa only [zL] using this
end
/-- A marker: the row of one's own in slot t, the k-th resource, is given away when a body ends. -/
structure Giv (t k : Nat) : Prop where
  ok : True
theorem Giv.mk' (t k : Nat) : Giv t k := ⟨trivial⟩
section
variable {F : FCtx} {E : Env} {L : List Res} {Q : Exit → Act → World → Prop} {x : Exit} {α : Type} {g c sz n : Nat} {e : TypeId} {f : α → List Ty} {l : List α}
theorem HX.giveM {t k : Nat} (hm : Giv t k) (he : endB x = true) (hE : E.get t = some (Is (slAt g n c))) (hL : L[k]? = some (ownA g c e sz f l)) (hn : n = l.length) (h : HX F ((t, TSl sz f l) :: E) (L.set k empR) Q x) : HX F E L Q x := fun a w G S hi ht => by
  obtain ⟨G', hle, hi', hT⟩ := hi.give hL
  refine h a w G' _ hi' ⟨ht.size, ht.defers, fun t' T' e' => ?_⟩
  have hm := ht.mono hle
  simp only [Env.get] at e'
  cases hb : Nat.beq t t' with
  | false => rw [hb] at e'; exact hm.get t' T' e'
  | true =>
    rw [hb] at e'
    cases e'
    have := Nat.eq_of_beq_eq_true hb
    subst this
    have hv : a.tmps.getD t undef = slAt g n c := ht.get t _ hE
    rw [hv, hn]; exact hT
end
end Go.Vk
set_option linter.unusedVariables false
namespace Go.Vk
theorem wrap_u64 (m : Int) : IntKind.u64.wrap m = m % 18446744073709551616 := by
  simp [IntKind.wrap, IntKind.bits, IntKind.signed]
theorem or_lowu {m c : Int} (hc : 0 ≤ c ∧ c < 256) : bitsOf .or .u64 ((m * 256) % 18446744073709551616) c = (m * 256 + c) % 18446744073709551616 := by
  have e : ((BitVec.ofInt 64 ((m * 256) % 18446744073709551616) ||| BitVec.ofInt 64 c).toNat : Int) = (m * 256 + c) % 18446744073709551616 := by
    rw [BitVec.toNat_or, BitVec.toNat_ofInt, BitVec.toNat_ofInt]
    have h1 : (c % ((2 ^ 64 : Nat) : Int)).toNat = c.toNat := by omega
    have h2 : (((m * 256) % 18446744073709551616) % ((2 ^ 64 : Nat) : Int)).toNat = 2 ^ 8 * (m % 72057594037927936).toNat := by omega
    rw [h1, h2, ← Nat.two_pow_add_eq_or_of_lt (by omega)]
    omega
  show IntKind.u64.wrap ((BitVec.ofInt 64 ((m * 256) % 18446744073709551616) ||| BitVec.ofInt 64 c).toNat : Int) = _
  rw [e, wrap_u64]
  omega
section
variable {P : Program} {L : List Res} {E : Env} {dst : Option Tmp} {ty : TypeId} {pos : String} {after : Array Edge} {gd : Option (Nat × Bool)}
theorem op_shr7 {x : Operand} {c : UInt8} {xt yt : TypeId} (hx : Opd E x = some (okI .u8 (c.toNat : Int))) : OpP P L E ⟨dst, .binOp .shr xt x (.const (.int .u64 7)) yt, ty, pos, after, gd⟩ (okI .u8 ((c.toNat : Int) / 128)) :=
  op_shr (n := 7) hx rfl (by decide)
theorem op_shl8u {x : Operand} {m : Int} {xt yt : TypeId} (hx : Opd E x = some (okI .u64 m)) : OpP P L E ⟨dst, .binOp .shl xt x (.const (.int .u64 8)) yt, ty, pos, after, gd⟩ (okI .u64 ((m * 256) % 18446744073709551616)) := by
  rw [← wrap_u64]; exact op_shlw (n := 8) hx rfl (by decide)
theorem op_orlowu {x y : Operand} {m : Int} {c : UInt8} {xt yt : TypeId} (hx : Opd E x = some (okI .u64 ((m * 256) % 18446744073709551616))) (hy : Opd E y = some (okI .u64 (c.toNat : Int))) : OpP P L E ⟨dst, .binOp .or xt x y yt, ty, pos, after, gd⟩ (okI .u64 ((m * 256 + (c.toNat : Int)) % 18446744073709551616)) := by
  have := c.toNat_lt
  rw [← or_lowu (by omega)]; exact op_orb hx hy
end
end Go.Vk
set_option linter.unusedVariables false
namespace Go.Vk
def heapImm (w : World) : Imm := fun b o => w.cell? ⟨b, o, none⟩
theorem heapImm.sat (w : World) : Sat (heapImm w) w := fun _ _ _ h => h
theorem law_of {P : Program} {f : FuncId} {A : List Ty} (h : CFn P f A (Is (.bool true))) (vs : List Value) (w : World) (ha : ArgsT (heapImm w) A vs) : Calls P f vs.toArray w fun e w' => e = .returned (.bool true) ∧ RowKit.Below w.heap.size w w' := by
  refine (h.calls vs w (heapImm w) _ (heapImm.sat w) (Owns.none _ w) ha).mono ?_
  rintro e w' ⟨v, G', S', rfl, hext, -, -, hT⟩
  cases hT
  exact ⟨rfl, ⟨hext.os, hext.tape, hext.output, hext.size, fun k hk => (hext.blk k hk (fun ⟨_, z⟩ => z)).1⟩⟩
theorem wf_u8 {n : Int} (h : (Lit.int .u8 n).wf = true) : 0 ≤ n ∧ n ≤ 255 := by
  simp [Lit.wf, IntKind.min, IntKind.max, IntKind.bits, IntKind.signed] at h; omega
theorem wf_i64 {n : Int} (h : (Lit.int .i64 n).wf = true) : -9223372036854775808 ≤ n ∧ n ≤ 9223372036854775807 := by
  simp [Lit.wf, IntKind.min, IntKind.max, IntKind.bits, IntKind.signed] at h; omega
end Go.Vk
set_option linter.unusedVariables false
namespace Go.Vk
/-- The bytes of a row of numbers. -/
def bytesOf (zs : List Int) : List UInt8 := zs.map b8
theorem arg_u8 {G : Imm} {n : Int} (h : (Lit.int .u8 n).wf = true) : (okI .u8 ((b8 n).toNat : Int)).p G (.int .u8 n) := by
  have := wf_u8 h
  show Value.int .u8 n = .int .u8 _
  rw [b8_of (by omega)]
theorem arg_bytes {w : World} {a : Option Addr} {len cap : Nat} {zs : List Int} (h : (a = none ∧ len = 0 ∧ cap = 0 ∧ zs = []) ∨
    ∃ x, a = some x ∧ len ≤ cap ∧ cap ≤ maxLen ∧ zs.length = cap ∧ (∀ i, i < zs.length → w.cell? (x.add i) = some (.int .u8 (zs.getD i 0))) ∧ ∀ n ∈ zs, (Lit.int .u8 n).wf = true) : (TBytes (bytesOf (zs.take len))).p (heapImm w) (.slice a len cap) := by
  rcases h with ⟨rfl, rfl, rfl, rfl⟩ | ⟨x, rfl, hl, hm, hz, hc, hw⟩
  · exact TSlX.sl (nil_sl 1 cB _)
  · have hlen : (bytesOf (zs.take len)).length = len := by simp [bytesOf]; omega
    refine ⟨some x, cap, by rw [hlen], by omega, hm, (fun e => by cases e), (fun e => by cases e), fun ad e => ?_⟩
    cases e
    by_cases h0 : zs.length = 0
    · exact ⟨fun hp => by omega, fun i y hy => by have := (List.getElem?_eq_some_iff.1 hy).1; omega⟩
    · have hspot : x.spot = none := by
        have := hc 0 (by omega)
        simpa [Addr.add] using World.cell?_spot this
      refine ⟨fun _ => hspot, fun i y hy => ?_⟩
      have hi : i < len := by have := (List.getElem?_eq_some_iff.1 hy).1; omega
      refine ⟨rfl, fun j T hj => ?_⟩
      cases j with
      | succ j => simp [cB] at hj
      | zero =>
        simp only [cB, List.getElem?_cons_zero, Option.some.injEq] at hj
        subst hj
        have hzi : zs[i]? = some (zs.getD i 0) := by
          rw [List.getD_eq_getElem?_getD, List.getElem?_eq_getElem (by omega)]; rfl
        have hy' : y = b8 (zs.getD i 0) := by
          simp only [bytesOf, List.getElem?_map, List.getElem?_take, hi, if_true, hzi, Option.map_some, Option.some.injEq] at hy
          exact hy.symm
        have hwf := wf_u8 (hw _ (List.mem_of_getElem? hzi))
        refine ⟨.int .u8 (zs.getD i 0), ?_, ?_, rfl⟩
        · have := hc i (by omega)
          obtain ⟨b, o, sp⟩ := x
          simp only at hspot; subst hspot
          show w.cell? _ = _
          rw [← this]
          unfold Addr.add
          split
          · subst i; simp
          · simp
        · show Value.int .u8 _ = .int .u8 _
          rw [hy', b8_of (by omega)]
end Go.Vk
set_option linter.unusedVariables false
namespace Go.Vk
open Go.WideElems Go.Maps Go.WideMaps

/-- A map's element, as it is. -/
def held (v : Value) : Option (DataW Value × List MemPlace) := some (.held v, [])
abbrev mpV (g : Nat) : Value := .map (some g)
def mblk : Value → Nat
  | .map (some g) => g
  | _ => 0
/-- The map in block g is this call's own: at the key kl it has what f (m kl) says. -/
def ownMp {α : Type} (P : Program) (k e : TypeId) (g n : Nat) (f : α → Ty) (m : Lit → α) : Res where
  p S G w := (∀ b, S b ↔ b = g) ∧ ∃ D z, w.ownsMap P k held g n D ∧ (P.info? e).map (·.zero) = some (some z) ∧ ∀ kl, WideAt.IsKeyLit kl → ∃ u, D.atKey kl (.held z) = .held u ∧ (f (m kl)).p G u
  loc := by
    rintro S G w G' w' ⟨h1, D, z, ⟨es, clock, hb, F, hs, hD⟩, hz, h2⟩ hle hh
    obtain ⟨e1, e2⟩ := hh g ((h1 g).2 rfl)
    exact ⟨h1, D, z, ⟨es, clock, by rw [e1]; exact hb, F, hs, hD⟩, hz, fun kl hk => let ⟨u, a, b⟩ := h2 kl hk; ⟨u, a, (f (m kl)).mono hle b⟩⟩
open Classical in
/-- The map with something else at a key. -/
noncomputable def updM {α : Type} (m : Lit → α) (kl : Lit) (y : α) : Lit → α := fun k => if k = kl then y else m k
theorem updM_same {α : Type} (m : Lit → α) (kl : Lit) (y : α) : updM m kl y kl = y := by unfold updM; rw [if_pos rfl]
theorem updM_ne {α : Type} {m : Lit → α} {kl k : Lit} {y : α} (h : k ≠ kl) : updM m kl y k = m k := by unfold updM; rw [if_neg h]

/-- What an empty map has everywhere. -/
def ZeroT (z : Value) (T : Ty) : Prop := ∀ G, T.p G z
theorem ZeroT.is {z v : Value} (h : z = v) : ZeroT z (Is v) := fun _ => h
theorem ZeroT.agg {z : Value} {zs : List Value} {ts : List Ty} (h : z = .agg zs.toArray) (k : LitT zs ts) : ZeroT z (TAgg ts) := fun G => by
  obtain ⟨h1, h2⟩ := LitT.at zs ts k
  refine ⟨zs, h, h1, fun j T u e1 e2 => ?_⟩
  obtain ⟨u', e3, e4, e5⟩ := h2 j T e1
  rw [e2] at e3
  cases e3
  exact ⟨T.mono (fun _ _ _ e => by cases e) e4, e5⟩
/-- A slot of type T is the key kl. -/
def KeyT (P : Program) (k : TypeId) (T : Ty) (kl : Lit) : Prop := ∀ G v, T.p G v → keyOf P k v = some kl
theorem KeyT.int {P : Program} {k : TypeId} {q : IntKind} {n : Int} (hk : P.underlying k = some (.int q)) (h : q.min ≤ n ∧ n ≤ q.max) : KeyT P k (okI q n) (.int q n) := fun G v e => by
  cases e; exact keyOf_int_mk hk (by simp [Lit.wf, h])
theorem KeyT.i64 {P : Program} {k : TypeId} {n : Int} (hk : P.underlying k = some (.int .i64)) (h : -9223372036854775808 ≤ n ∧ n ≤ 9223372036854775807) : KeyT P k (okI .i64 n) (.int .i64 n) := KeyT.int hk h
theorem KeyT.str {P : Program} {k : TypeId} {l : List UInt8} (hk : P.underlying k = some .string) (h : l.length ≤ maxLen) : KeyT P k (Is (str l)) (.string l) := fun G v e => by
  cases e
  exact keyOf_string_mk (P := P) hk (s := ⟨l.toArray⟩) (by simpa [ByteArray.size] using h)

/-- A map is made in slot d: f, and what it has everywhere at first. -/
structure MkMap {α : Type} (d : Nat) (f : α → Ty) (x : α) : Prop where
  t : True
theorem MkMap.mk' {α : Type} (d : Nat) (f : α → Ty) (x : α) : MkMap d f x := ⟨trivial⟩
section
variable {P : Program} {L : List Res} {E : Env} {dst : Option Tmp} {ty : TypeId} {pos : String} {after : Array Edge} {gd : Option (Nat × Bool)}

theorem oc_makeMap {α : Type} {f : α → Ty} {x : α} {t k e : TypeId} {z : Value} {d : Nat} {L' : Nat → List Res} (hm : MkMap d f x) (ht : P.underlying t = some (.map k e)) (hz : (P.info? e).map (·.zero) = some (some z)) (hx : ZeroT z (f x)) (hL' : ∀ g, L ++ [ownMp P k e g 0 f (fun _ => x)] = L' g) :
    OpC P L E ⟨some d, .makeMap t none, ty, pos, after, gd⟩ (fun v => Is (mpV (mblk v))) (fun v => L' (mblk v)) := by
  intro a w G S hs ho ht' K Q kk
  have hr : (execOp a.eval (⟨some d, .makeMap t none, ty, pos, after, gd⟩ : Oper)).run P w = .ok (.value (.map (some w.heap.size))) (w.alloc (.map #[] 0)) := by
    simp [execOp, RowKit.run_makeMap]
  simp only [Oper.wp, hr, Oper.upon_value]
  have hold : ∀ b, b < w.heap.size → (w.alloc (.map #[] 0)).heap[b]? = w.heap[b]? := fun b hb => RowKit.Below.heap_alloc w _ b hb
  have hnone : ∀ o, G w.heap.size o = none := fun o => by
    cases h : G w.heap.size o with
    | none => rfl
    | some v => have := hs.lt h; omega
  have hext : Ext noZ G w G (w.alloc (.map #[] 0)) := ⟨fun b o v hb => by
      have h1 := hs _ _ _ hb
      have h2 := hs.lt hb
      simp only [World.cell?] at h1 ⊢
      rw [hold b h2]; exact h1, Imm.le.refl G, rfl, rfl, rfl, by simp, fun b hb _ => ⟨hold b hb, fun _ => rfl⟩⟩
  have hown : (ownMp P k e w.heap.size 0 f (fun _ => x)).p (fun b => b = w.heap.size) G (w.alloc (.map #[] 0)) :=
    ⟨fun b => Iff.rfl, _, z, World.ownsMap_made w P k held, hz, fun kl hk => ⟨z, rfl, hx G⟩⟩
  refine kk (.map (some w.heap.size)) _ G (fun j b => if j = L.length then b = w.heap.size else S j b) ⟨hext.sat, hext.le, hext.os, hext.tape, hext.output, hext.size, fun b hb _ => hext.blk b hb (fun z => z)⟩ ?_ ?_ rfl
  · have := ho.snoc hext (ownMp P k e w.heap.size 0 f (fun _ => x)) (fun b => b = w.heap.size) (fun b hb => ⟨by omega, by subst hb; simp⟩) hown
    rw [hL'] at this; exact this
  · intro j b hb
    by_cases hj : j = L.length
    · simp only [hj, if_true] at hb; exact .inl (by omega)
    · simp only [hj, if_false] at hb; exact .inr ⟨j, hb⟩

theorem op_lookup {α : Type} {f : α → Ty} {m : Lit → α} {x y : Operand} {t k e : TypeId} {g n : Nat} {U : Ty} {kl : Lit} (i : Nat) (hx : Opd E x = some (Is (mpV g))) (hL : L[i]? = some (ownMp P k e g n f m)) (ht : P.underlying t = some (.map k e)) (hy : Opd E y = some U) (hK : Keyed P k) (hkey : KeyT P k U kl) :
    OpP P L E ⟨dst, .lookup t x y false, ty, pos, after, gd⟩ (f (m kl)) :=
  OpP.same fun a w G S hs ho h => by
    have h1 : a.eval x = mpV g := h x (by simp [Op.operands]) _ hx
    have h2 := hkey _ _ (h y (by simp [Op.operands]) _ hy)
    obtain ⟨_, D, z, h3, h4, h5⟩ := ho.res i _ hL
    obtain ⟨u, h6, h7⟩ := h5 kl (hK.key h2)
    obtain ⟨v, ps, h8, h9⟩ := h3.lookup hK ht (run_zeroValue h4 w) (zd := .held z) (zp := []) rfl h2
    rw [h6] at h9
    simp only [held, Option.some.injEq, Prod.mk.injEq, DataW.held.injEq] at h9
    obtain ⟨rfl, _⟩ := h9
    refine ⟨v, ?_, h7⟩
    simp only [execOp, h1]
    simp [h8]

theorem oc_mapUpdate {α : Type} {f : α → Ty} {m : Lit → α} {x y v : Operand} {t k e : TypeId} {g n : Nat} {U : Ty} {kl : Lit} {c : α} {L' : List Res} (i : Nat) (hx : Opd E x = some (Is (mpV g))) (hL : L[i]? = some (ownMp P k e g n f m)) (ht : P.underlying t = some (.map k e)) (hy : Opd E y = some U) (hK : Keyed P k) (hkey : KeyT P k U kl)
    (hv : Opd E v = some (f c)) (hn : n < maxLen) (hL' : L.set i (ownMp P k e g (n + 1) f (updM m kl c)) = L') :
    OpC P L E ⟨dst, .mapUpdate t x y v, ty, pos, after, gd⟩ (fun v => Is v) (fun _ => L') := by
  intro a w G S hs ho h K Q kk
  have h1 : a.eval x = mpV g := h x (by simp [Op.operands]) _ hx
  have h2 := hkey _ _ (h y (by simp [Op.operands]) _ hy)
  have h2v := h v (by simp [Op.operands]) _ hv
  obtain ⟨hS, D, z, h3, h4, h5⟩ := ho.res i _ hL
  obtain ⟨w', h8, h9, h10⟩ := h3.update (val := a.eval v) (d := .held (a.eval v)) (ps := []) hK ht hn h2 rfl
  have hmap : IsMap D := by obtain ⟨es, _, _, _, _, e⟩ := h3; exact ⟨_, e⟩
  have hcell : ∀ o, w.cell? ⟨g, o, none⟩ = none := fun o => by
    obtain ⟨es, clock, hb, _⟩ := h3
    simp [World.cell?, hb]
  have hGn : ∀ o, G g o = none := fun o => by
    cases hg : G g o with
    | none => rfl
    | some v' => have := hs _ _ _ hg; rw [hcell o] at this; cases this
  have hlt := h3.lt
  have hoth : ∀ b, b < w.heap.size → b ≠ g → w'.heap[b]? = w.heap[b]? := fun b hb hbg => h10.block b hb (fun e => hbg (by cases e; rfl))
  have hext : Ext (fun b => b = g) G w G w' := ⟨fun b o v' hb => by
      have h1' := hs _ _ _ hb
      have h2' := hs.lt hb
      have hbg : b ≠ g := fun e => by rw [e, hGn o] at hb; cases hb
      simp only [World.cell?] at h1' ⊢
      rw [hoth b h2' hbg]; exact h1', Imm.le.refl G, h10.os, h10.tape, h10.output, h10.size, fun b hb hbg => ⟨hoth b hb hbg, fun _ => rfl⟩⟩
  have hr : (execOp a.eval (⟨dst, .mapUpdate t x y v, ty, pos, after, gd⟩ : Oper)).run P w = .ok .skip w' := by
    simp only [execOp, h1]
    simp [h8]
  simp only [Oper.wp, hr, Oper.upon_skip]
  have hiL : i < L.length := (List.getElem?_eq_some_iff.1 hL).1
  have hSg : S i g := (hS g).2 rfl
  have hk' := hK.key h2
  have hnew : (ownMp P k e g (n + 1) f (updM m kl c)).p (fun b => b = g) G w' := by
    refine ⟨fun b => Iff.rfl, _, z, h9, h4, fun kl' hk => ?_⟩
    by_cases he : kl' = kl
    · subst he
      rw [updM_same]
      exact ⟨_, atKey_put_same hmap hk' _ _, h2v⟩
    · rw [updM_ne he]
      obtain ⟨u, h6, h7⟩ := h5 kl' hk
      exact ⟨u, by rw [atKey_put_other he]; exact h6, h7⟩
  refine kk undef w' G (fun j b => if j = i then b = g else S j b) ⟨hext.sat, hext.le, hext.os, hext.tape, hext.output, hext.size, fun b hb hz => hext.blk b hb (fun e => hz ⟨i, by rw [e]; exact hSg⟩)⟩ ?_ ?_ rfl
  · have := ho.set hext hiL (fun b e => by rw [e]; exact hSg) (ownMp P k e g (n + 1) f (updM m kl c)) (fun b => b = g) (fun b e => ⟨.inl (by rw [e]; exact hSg), by rw [e]; exact h9.lt⟩) hnew
    rw [hL'] at this; exact this
  · intro j b hb
    by_cases hj : j = i
    · simp only [hj, if_true] at hb; exact .inr ⟨i, by rw [hb]; exact hSg⟩
    · simp only [hj, if_false] at hb; exact .inr ⟨j, hb⟩
end
end Go.Vk
set_option linter.unusedVariables false
namespace Go.Vk
/-- The variable g holds an int. -/
def globR (g : Nat) : Res := ⟨fun S G w => (∀ b, ¬ S b) ∧ ∃ m, G g 0 = some (.int .i64 m), fun {S G w G' w'} h k _ => ⟨h.1, h.2.imp fun m e => k g 0 _ e⟩⟩
theorem globR.owns {G : Imm} {w : World} {g : Nat} (h : ∃ m, G g 0 = some (.int .i64 m)) : Owns (fun _ _ => False) [globR g] G w :=
  ⟨fun _ _ h => h.elim, fun _ _ _ h => h.elim, fun _ _ h => h.elim, fun i r e => by
    cases i with
    | zero => simp at e; subst e; exact ⟨fun _ z => z, h⟩
    | succ i => simp at e⟩
abbrev CFnG (g : Nat) (P : Program) (f : FuncId) (A : List Ty) (T : Ty) : Prop := CallsC P f A [globR g] (fun _ => T) (fun _ => [globR g])
theorem OpdsS.of {E : Env} : ∀ (xs : List Operand) (A : List Ty), Opds E xs A → OpdsS E xs A
  | [], [], _ => trivial
  | x :: xs, T :: A, h => ⟨⟨T, h.1, Sub.refl T⟩, OpdsS.of xs A h.2⟩
  | [], _ :: _, h => h.elim
  | _ :: _, [], h => h.elim
section
variable {P : Program} {L : List Res} {E : Env} {dst : Option Tmp} {ty : TypeId} {pos : String} {after : Array Edge} {gd : Option (Nat × Bool)}
theorem op_callGl {f : FuncId} {A : List Ty} {T : Ty} {xs : List Operand} {tys : Array TypeId} {g : Nat} (i : Nat) (hL : L[i]? = some (globR g)) (hf : CFnG g P f A T) (hx : OpdsS E xs A) :
    OpP P L E ⟨dst, .call { callee := .value (.func f), args := xs.toArray, argTypes := tys }, ty, pos, after, gd⟩ T := by
  intro a w G S hs ho ht K Q k
  simp only [Oper.wp, run_call_func w hf.enter, Oper.upon_enter]
  have hg := (ho.res i _ hL).2
  refine (hf.calls _ w G _ hs (globR.owns hg) (OpdsS.args xs A hx (fun x hx' => ht x (by simp [Op.operands, Call.operands, hx'])))).mono ?_
  rintro e w' ⟨v, G', S', rfl, hext, ho', hs', hT⟩
  exact k v w' G' ⟨hext.sat, hext.le, hext.os, hext.tape, hext.output, hext.size, fun b hb _ => hext.blk b hb (fun ⟨_, h⟩ => h)⟩ hT
theorem exCallGl {f : FuncId} {A : List Ty} {T : Ty} {xs : List Operand} {tys : Array TypeId} {c : Prop} {K : Ty → Prop} {g : Nat} (i : Nat) (hL : L[i]? = some (globR g)) (hx : Opds E xs A) (hf : c → CFnG g P f A T) (k : K T) :
    ∃ T, (c → OpP P L E ⟨dst, .call { callee := .value (.func f), args := xs.toArray, argTypes := tys }, ty, pos, after, gd⟩ T) ∧ K T := ⟨T, fun h => op_callGl i hL (hf h) (OpdsS.of xs A hx), k⟩
theorem exCallGlS {f : FuncId} {A : List Ty} {T : Ty} {xs : List Operand} {tys : Array TypeId} {c : Prop} {K : Ty → Prop} {g : Nat} (i : Nat) (hL : L[i]? = some (globR g)) (hf : c → CFnG g P f A T) (zxs : OpdsS E xs A) (k : K T) :
    ∃ T, (c → OpP P L E ⟨dst, .call { callee := .value (.func f), args := xs.toArray, argTypes := tys }, ty, pos, after, gd⟩ T) ∧ K T := ⟨T, fun h => op_callGl i hL (hf h) zxs, k⟩
end
theorem globR.get {S : Nat → Nat → Prop} {L : List Res} {G : Imm} {w : World} {g i : Nat} (ho : Owns S L G w) (hL : L[i]? = some (globR g)) : ∃ m, G g 0 = some (.int .i64 m) := (ho.res i _ hL).2
/-- What the library's contract says of a world that is kept below. -/
theorem Ext.of_below {G : Imm} {w w' : World} (hs : Sat G w) (h : RowKit.Below w.heap.size w w') : Ext noZ G w G w' := by
  obtain ⟨h1, h2, h3, h4, h5⟩ := h
  refine ⟨fun b o v e => ?_, Imm.le.refl G, h1, h2, h3, h4, fun b hb _ => ⟨h5 b hb, fun _ => rfl⟩⟩
  have h := hs b o v e
  rw [← h]
  unfold World.cell?
  rw [h5 b (hs.lt e)]
/-- A contract out of what the library says. -/
theorem CFnG.of {P : Program} {f : FuncId} {A : List Ty} {g : Nat} {u : Value} (henter : ∀ args w, (callFunc f args).run P w = .ok (.enter f args) w)
    (h : ∀ (vs : List Value) (w : World) (G : Imm) (m : Int), ArgsT G A vs → w.cell? ⟨g, 0, none⟩ = some (.int .i64 m) → Calls P f vs.toArray w fun e w' => e = .returned u ∧ RowKit.Below w.heap.size w w') {T : Ty} (hT : ∀ G, T.p G u) : CFnG g P f A T :=
  ⟨henter, fun vs w G S hs ho ha => by
    obtain ⟨hS, m, hm⟩ := ho.res 0 _ rfl
    refine (h vs w G m ha (hs g 0 _ hm)).mono ?_
    rintro e w' ⟨rfl, hb⟩
    have he := Ext.of_below hs hb
    refine ⟨u, G, fun _ _ => False, rfl, ⟨he.sat, he.le, he.os, he.tape, he.output, he.size, fun b hb' _ => he.blk b hb' (fun z => z)⟩, globR.owns ⟨m, hm⟩, fun _ _ z => z.elim, hT G⟩⟩
attribute [irreducible] globR
end Go.Vk
