/-
  A region that draws its order: whatever order its edges allow, if each operation only reads or lays new blocks. Nothing here speaks of a program; no conditions.
-/
import Derived.Test.YtibabbepnhpaiaaVq
set_option linter.unusedVariables false
namespace Go.Vk

/-- The slots that an operation reads. -/
def readsOf (ops : Array Oper) (o : Oper) : List Tmp :=
  (o.op.operands.toList.filterMap fun | .tmp t => some t | _ => none) ++ (match o.guard with | some (j, _) => ((ops[j]?).bind (·.dst)).toList | none => [])
def edge (o : Oper) (j : Nat) : Bool := o.after.toList.any fun e => Region.binds .any e && Nat.beq e.on j
theorem edge.out {o : Oper} {j : Nat} (h : edge o j = true) : ∃ e ∈ o.after, Region.binds .any e = true ∧ e.on = j := by
  unfold edge at h
  rw [List.any_eq_true] at h
  obtain ⟨e, he, hb⟩ := h
  simp only [Bool.and_eq_true] at hb
  exact ⟨e, by simpa using he, hb.1, Nat.eq_of_beq_eq_true hb.2⟩
/-- What the theorem asks of the edges. -/
def chkA (ops : Array Oper) : Bool :=
  (List.range ops.size).all fun i => match ops[i]? with
    | none => true
    | some o =>
      (o.after.toList.all fun e => !Region.binds .any e || Nat.blt e.on i) &&
      (List.range ops.size).all fun j => match ops[j]? with
        | none => true
        | some p => (Nat.beq i j || o.dst.isNone || o.dst != p.dst) &&
          (match p.dst with
           | none => true
           | some d => !(readsOf ops o).contains d || (if Nat.blt j i then edge o j else !(Nat.beq i j) && edge p i))

structure ChkA (ops : Array Oper) : Prop where
  back : ∀ (i : Nat) (o : Oper), ops[i]? = some o → ∀ e ∈ o.after, Region.binds .any e = true → e.on < i
  one : ∀ (i j : Nat) (o p : Oper) (d : Nat), ops[i]? = some o → ops[j]? = some p → o.dst = some d → p.dst = some d → i = j
  reads : ∀ (i j : Nat) (o p : Oper) (d : Nat), ops[i]? = some o → ops[j]? = some p → p.dst = some d → d ∈ readsOf ops o → (j < i → edge o j = true) ∧ (i ≤ j → i ≠ j ∧ edge p i = true)

theorem ChkA.of {ops : Array Oper} (h : chkA ops = true) : ChkA ops := by
  unfold chkA at h
  rw [List.all_eq_true] at h
  have hi : ∀ (i : Nat) (o : Oper), ops[i]? = some o → (o.after.toList.all fun e => !Region.binds .any e || Nat.blt e.on i) = true ∧ ∀ (j : Nat) (p : Oper), ops[j]? = some p → (Nat.beq i j || o.dst.isNone || o.dst != p.dst) = true ∧
      (match p.dst with
           | none => true
           | some d => !(readsOf ops o).contains d || (if Nat.blt j i then edge o j else !(Nat.beq i j) && edge p i)) = true := by
    intro i o ho
    have hlt := (Array.getElem?_eq_some_iff.1 ho).1
    have h1 := h i (List.mem_range.2 hlt)
    rw [ho] at h1
    simp only [Bool.and_eq_true] at h1
    refine ⟨h1.1, fun j p hp => ?_⟩
    have hlt' := (Array.getElem?_eq_some_iff.1 hp).1
    have h2 := (List.all_eq_true.1 h1.2) j (List.mem_range.2 hlt')
    rw [hp] at h2
    simpa only [Bool.and_eq_true] using h2
  refine ⟨?_, ?_, ?_⟩
  · intro i o ho e he hb
    have h1 := (hi i o ho).1
    rw [List.all_eq_true] at h1
    have := h1 e (by simpa using he)
    rw [hb] at this
    simp only [Bool.not_true, Bool.false_or] at this
    exact Nat.le_of_ble_eq_true this
  · intro i j o p d ho hp h1 h2
    have h3 := ((hi i o ho).2 j p hp).1
    rw [h1, h2] at h3
    simp at h3
    exact h3
  · intro i j o p d ho hp h1 h2
    have h3 := ((hi i o ho).2 j p hp).2
    rw [h1] at h3
    have hc : (readsOf ops o).contains d = true := by simpa using h2
    simp only [hc, Bool.not_true, Bool.false_or] at h3
    refine ⟨fun hji => ?_, fun hij => ?_⟩
    · have : Nat.blt j i = true := Nat.ble_eq_true_of_le hji
      rw [this] at h3; simpa using h3
    · have : Nat.blt j i = false := by
        rw [Bool.eq_false_iff]; intro hb; have := Nat.le_of_ble_eq_true hb; omega
      rw [this] at h3
      simp at h3
      exact ⟨fun e => by subst e; simp at h3, h3.2⟩

/-- The operations' types, in the text's order. -/
def RegA (F : FCtx) (ops : Array Oper) (L : List Res) (fin : Env → Prop) : List Oper → Env → Prop
  | [], E => fin E
  | o :: rest, E => ∃ T, dstB F.N o = true ∧ OpG F.P ops L E o T ∧ RegA F ops L fin rest (E.put o.dst T)

def envAt (E : Env) : List Oper → List Ty → Env
  | o :: os, T :: Ts => envAt (E.put o.dst T) os Ts
  | _, _ => E

theorem RegA.types {F : FCtx} {ops : Array Oper} {L : List Res} {fin : Env → Prop} : ∀ (l : List Oper) (E : Env), RegA F ops L fin l E →
    ∃ Ts : List Ty, Ts.length = l.length ∧ fin (envAt E l Ts) ∧ ∀ (i : Nat) (o : Oper) (T : Ty), l[i]? = some o → Ts[i]? = some T → dstB F.N o = true ∧ OpG F.P ops L (envAt E (l.take i) (Ts.take i)) o T
  | [], E, h => ⟨[], rfl, h, fun i o T h1 => by simp at h1⟩
  | o :: l, E, ⟨T, hd, hop, hr⟩ => by
    obtain ⟨Ts, h1, h2, h3⟩ := RegA.types l _ hr
    refine ⟨T :: Ts, by simp [h1], h2, fun i o' T' e1 e2 => ?_⟩
    cases i with
    | zero => simp at e1 e2; subst e1; subst e2; exact ⟨hd, hop⟩
    | succ i => exact h3 i o' T' (by simpa using e1) (by simpa using e2)

theorem envAt_get : ∀ (l : List Oper) (Ts : List Ty) (E : Env) (t : Nat) (T : Ty), Ts.length = l.length → (envAt E l Ts).get t = some T →
    (∃ (j : Nat) (o : Oper), l[j]? = some o ∧ Ts[j]? = some T ∧ o.dst = some t) ∨ ((∀ (j : Nat) (o : Oper), l[j]? = some o → o.dst ≠ some t) ∧ E.get t = some T)
  | [], [], E, t, T, _, h => .inr ⟨fun j o e => by simp at e, h⟩
  | o :: l, U :: Ts, E, t, T, hl, h => by
    rcases envAt_get l Ts _ t T (by simpa using hl) h with ⟨j, p, h1, h2, h3⟩ | ⟨h1, h2⟩
    · exact .inl ⟨j + 1, p, by simpa using h1, by simpa using h2, h3⟩
    · cases hd : o.dst with
      | none =>
        rw [hd] at h2
        refine .inr ⟨fun j p e => ?_, h2⟩
        cases j with
        | zero => simp at e; subst e; rw [hd]; simp
        | succ j => exact h1 j p (by simpa using e)
      | some k =>
        rw [hd] at h2
        simp only [Env.put, Env.get] at h2
        by_cases hk : Nat.beq k t = true
        · rw [hk] at h2
          simp at h2; subst h2
          have := Nat.eq_of_beq_eq_true hk; subst this
          exact .inl ⟨0, o, rfl, rfl, hd⟩
        · have hk' : Nat.beq k t = false := Bool.eq_false_iff.2 hk
          rw [hk'] at h2
          refine .inr ⟨fun j p e => ?_, h2⟩
          cases j with
          | zero => simp at e; subst e; rw [hd]; intro e'; simp only [Option.some.injEq] at e'; subst e'; simp at hk
          | succ j => exact h1 j p (by simpa using e)
  | [], _ :: _, _, _, _, h, _ => by simp at h
  | _ :: _, [], _, _, _, h, _ => by simp at h

/-- How things stand when some of the operations have been run. -/
structure MidA (F : FCtx) (ops : Array Oper) (L : List Res) (E : Env) (Ts : List Ty) (S : Nat → Nat → Prop) (listed : Array Bool) (a : Act) (w : World) (G : Imm) : Prop where
  inv : Inv F L G w S
  size : a.tmps.size = F.N
  defers : a.defers = []
  lsize : listed.size = ops.size
  closed : ∀ (i : Nat) (o : Oper), ops[i]? = some o → listed.getD i false = true → ∀ e ∈ o.after, Region.binds .any e = true → listed.getD e.on false = true
  done : ∀ (i : Nat) (o : Oper) (T : Ty) (d : Nat), ops[i]? = some o → Ts[i]? = some T → listed.getD i false = true → o.dst = some d → T.p G (a.tmps.getD d undef)
  rest : ∀ (d : Nat) (T : Ty), E.get d = some T → (∀ (i : Nat) (o : Oper), ops[i]? = some o → o.dst = some d → listed.getD i false = false) → T.p G (a.tmps.getD d undef)

def unlisted (listed : Array Bool) : Nat := (listed.toList.filter (! ·)).length

theorem unlisted_set {listed : Array Bool} {i : Nat} (h : listed[i]? = some false) : unlisted (listed.setIfInBounds i true) + 1 = unlisted listed := by
  have key : ∀ (l : List Bool) (i : Nat), l[i]? = some false → ((l.set i true).filter (! ·)).length + 1 = (l.filter (! ·)).length := by
    intro l
    induction l with
    | nil => intro i h; simp at h
    | cons b l ih =>
      intro i h
      cases i with
      | zero => simp at h; subst h; simp
      | succ i =>
        have := ih i (by simpa using h)
        cases b <;> simp <;> omega
  have := key listed.toList i (by simpa using h)
  simpa [unlisted] using this

theorem mem_ready {ops : Array Oper} {listed : Array Bool} {i : Nat} (h : i ∈ Region.ready .any ops listed) : ∃ o, ops[i]? = some o ∧ listed.getD i true = false ∧ ∀ e ∈ o.after, Region.binds .any e = true → listed.getD e.on false = true := by
  unfold Region.ready at h
  rw [List.mem_filter] at h
  obtain ⟨_, h2⟩ := h
  cases ho : ops[i]? with
  | none => rw [ho] at h2; simp at h2
  | some o =>
    rw [ho] at h2
    simp only [Option.map_some, Option.getD_some, Bool.and_eq_true, Bool.not_eq_true'] at h2
    refine ⟨o, rfl, h2.1, fun e he hb => ?_⟩
    have := (Array.all_eq_true_iff_forall_mem.1 h2.2) e he
    rw [hb] at this
    simpa using this

theorem ready_nil {ops : Array Oper} {listed : Array Bool} (hc : ChkA ops) (hl : listed.size = ops.size) (h : Region.ready .any ops listed = []) : ∀ i, i < ops.size → listed.getD i false = true := by
  intro i
  induction i using Nat.strongRecOn with
  | _ i ih =>
    intro hi
    have hnot : i ∉ Region.ready .any ops listed := by rw [h]; simp
    unfold Region.ready at hnot
    rw [List.mem_filter] at hnot
    cases hb : listed.getD i false with
    | true => rfl
    | false =>
      exfalso
      apply hnot
      refine ⟨List.mem_range.2 hi, ?_⟩
      have ho : ops[i]? = some ops[i] := Array.getElem?_eq_getElem hi
      have hb' : listed.getD i true = false := by
        have hil : i < listed.size := by omega
        simp only [Array.getD_eq_getD_getElem?, Array.getElem?_eq_getElem hil, Option.getD_some] at hb ⊢
        exact hb
      rw [ho, hb']
      simp only [Option.map_some, Option.getD_some, Bool.not_false, Bool.true_and]
      rw [Array.all_eq_true_iff_forall_mem]
      intro e he
      cases hbe : Region.binds .any e with
      | false => rfl
      | true =>
        have hlt := hc.back i _ ho e he hbe
        rw [ih e.on hlt (by omega)]; rfl

theorem unlisted_zero {listed : Array Bool} (h : unlisted listed = 0) : ∀ i, i < listed.size → listed.getD i false = true := by
  intro i hi
  have h0 : listed.toList.filter (! ·) = [] := List.eq_nil_of_length_eq_zero h
  rw [List.filter_eq_nil_iff] at h0
  have := h0 listed[i] (by simp)
  simp only [Array.getD_eq_getD_getElem?, Array.getElem?_eq_getElem hi, Option.getD_some]
  simpa using this

theorem getD_set {listed : Array Bool} {i j : Nat} (hi : i < listed.size) : (listed.setIfInBounds i true).getD j false = if i = j then true else listed.getD j false := by
  simp only [Array.getD_eq_getD_getElem?, Array.getElem?_setIfInBounds]
  by_cases h : i = j
  · subst h; simp [hi]
  · simp [h]

theorem wpAny_of {F : FCtx} {ops : Array Oper} {L : List Res} {E : Env} {Ts : List Ty} {S : Nat → Nat → Prop} {Q : Exit → Act → World → Prop} (hc : ChkA ops) (hlen : Ts.length = ops.size) (hE : E.okB F.N = true)
    (hops : ∀ (i : Nat) (o : Oper) (T : Ty), ops[i]? = some o → Ts[i]? = some T → dstB F.N o = true ∧ OpG F.P ops L (envAt E (ops.toList.take i) (Ts.take i)) o T)
    (hfin : HX F (envAt E ops.toList Ts) L Q .normal) : ∀ (fuel : Nat) (listed : Array Bool) (a : Act) (w : World) (G : Imm), MidA F ops L E Ts S listed a w G → unlisted listed ≤ fuel → wpAny F.P .any ops Q fuel listed a w := by
  have hend : ∀ (listed : Array Bool) (a : Act) (w : World) (G : Imm), MidA F ops L E Ts S listed a w G → (∀ i, i < ops.size → listed.getD i false = true) → Q .normal a w := by
    intro listed a w G hm hall
    refine hfin a w G S hm.inv ⟨hm.size, hm.defers, fun t T e => ?_⟩
    rcases envAt_get ops.toList Ts E t T (by simpa using hlen) e with ⟨j, o, h1, h2, h3⟩ | ⟨h1, h2⟩
    · have h1' : ops[j]? = some o := by simpa using h1
      exact hm.done j o T t h1' h2 (hall j (Array.getElem?_eq_some_iff.1 h1').1) h3
    · exact hm.rest t T h2 fun i o ho hd => absurd hd (h1 i o (by simpa using ho))
  intro fuel
  induction fuel with
  | zero =>
    intro listed a w G hm hu
    have hall := unlisted_zero (Nat.le_zero.1 hu)
    refine ⟨?_, hend listed a w G hm (fun i hi => hall i (by rw [hm.lsize]; exact hi))⟩
    apply List.eq_nil_iff_forall_not_mem.2
    intro i hi
    obtain ⟨o, h1, h2, _⟩ := mem_ready hi
    have hlt : i < listed.size := by rw [hm.lsize]; exact (Array.getElem?_eq_some_iff.1 h1).1
    have := hall i hlt
    simp only [Array.getD_eq_getD_getElem?, Array.getElem?_eq_getElem hlt, Option.getD_some] at this h2
    rw [this] at h2; cases h2
  | succ fuel ih =>
    intro listed a w G hm hu
    refine ⟨fun hr => hend listed a w G hm (ready_nil hc hm.lsize hr), fun i hi => ?_⟩
    obtain ⟨o, ho, hnl, hed⟩ := mem_ready hi
    have hlt : i < ops.size := (Array.getElem?_eq_some_iff.1 ho).1
    have hlt' : i < listed.size := by rw [hm.lsize]; exact hlt
    have hli : listed[i]? = some false := by
      rw [Array.getElem?_eq_getElem hlt']
      simp only [Array.getD_eq_getD_getElem?, Array.getElem?_eq_getElem hlt', Option.getD_some] at hnl
      rw [hnl]
    have hnl' : listed.getD i false = false := by simp [Array.getD_eq_getD_getElem?, hli]
    obtain ⟨T, hT⟩ : ∃ T, Ts[i]? = some T := ⟨_, List.getElem?_eq_getElem (by omega)⟩
    obtain ⟨hd, hop⟩ := hops i o T ho hT
    -- what the operation reads
    have hread : ∀ t, t ∈ readsOf ops o → ∀ U, (envAt E (ops.toList.take i) (Ts.take i)).get t = some U → U.p G (a.tmps.getD t undef) := by
      intro t ht U hU
      rcases envAt_get _ _ E t U (by simp; omega) hU with ⟨j, p, h1, h2, h3⟩ | ⟨h1, h2⟩
      · have hji : j < i := by
          have := (List.getElem?_eq_some_iff.1 h1).1
          simp at this; omega
        rw [List.getElem?_take, if_pos hji] at h1 h2
        have h1' : ops[j]? = some p := by simpa using h1
        have hed' := (hc.reads i j o p t ho h1' h3 ht).1 hji
        have hlj : listed.getD j false = true := by
          obtain ⟨k, hk, hb, hj⟩ := edge.out hed'
          have := hed k hk hb
          rw [hj] at this
          exact this
        exact hm.done j p U t h1' h2 hlj h3
      · refine hm.rest t U h2 fun j p hp hdp => ?_
        by_cases hji : j < i
        · exact absurd hdp (h1 j p (by rw [List.getElem?_take, if_pos hji]; simpa using hp))
        · obtain ⟨hne, hed'⟩ := (hc.reads i j o p t ho hp hdp ht).2 (by omega)
          cases hlj : listed.getD j false with
          | false => rfl
          | true =>
            exfalso
            obtain ⟨k, hk, hb, hj⟩ := edge.out hed'
            have := hm.closed j p hp hlj k hk hb
            rw [hj, hnl'] at this
            cases this
    have htyped : TypedO (envAt E (ops.toList.take i) (Ts.take i)) G a o := by
      intro x hx U hU
      cases x with
      | tmp t =>
        refine hread t ?_ U hU
        unfold readsOf
        rw [List.mem_append]
        exact .inl (List.mem_filterMap.2 ⟨.tmp t, by simpa using hx, rfl⟩)
      | const v => cases hU; rfl
      | global g => cases hU; rfl
      | func f => cases hU; rfl
    have hstep := OpG.step (F := F) (Q := Q) (K := wpAny F.P .any ops Q fuel (listed.setIfInBounds i true)) (w := w) (S := S) hop hm.inv.ext.sat hm.inv.owns htyped
      (by
        intro j want d hg hdj Tg he
        have hmem : d ∈ readsOf ops o := by
          unfold readsOf
          rw [List.mem_append, hg]
          right
          simp [hdj]
        refine ⟨hread d hmem Tg he, yielded_of hdj hm.size ?_ want⟩
        have hoj : ∃ p, ops[j]? = some p ∧ p.dst = some d := by
          cases hj : ops[j]? with
          | none => rw [hj] at hdj; cases hdj
          | some p => rw [hj] at hdj; exact ⟨p, rfl, hdj⟩
        obtain ⟨p, hp, hpd⟩ := hoj
        obtain ⟨U, hU⟩ : ∃ U, Ts[j]? = some U := ⟨_, List.getElem?_eq_getElem (by rw [hlen]; exact (Array.getElem?_eq_some_iff.1 hp).1)⟩
        exact dstB.lt (hops j p U hp hU).1 d hpd)
      (by
        intro v w' G' hext hv
        refine ih _ _ _ G' ?_ (by have := unlisted_set hli; omega)
        refine ⟨hm.inv.step0 hext, (Act.put_size a o.dst v).trans hm.size, (Act.put_defers' a o.dst v).trans hm.defers, by simpa using hm.lsize, ?_, ?_, ?_⟩
        · intro j p hp hlj e he hb
          rw [getD_set hlt'] at hlj ⊢
          by_cases hij : i = j
          · subst hij
            rw [ho] at hp; cases hp
            split
            · rfl
            · exact hed e he hb
          · rw [if_neg hij] at hlj
            split
            · rfl
            · exact hm.closed j p hp hlj e he hb
        · intro j p U d hp hU hlj hpd
          rw [getD_set hlt'] at hlj
          by_cases hij : i = j
          · subst hij
            rw [ho] at hp; cases hp
            rw [hT] at hU; cases hU
            rw [hpd, Act.put_getD a d d v (by rw [hm.size]; exact dstB.lt hd d hpd), if_pos rfl]
            exact hv
          · rw [if_neg hij] at hlj
            have hold := U.mono hext.le (hm.done j p U d hp hU hlj hpd)
            cases hod : o.dst with
            | none => simpa [Act.put] using hold
            | some k =>
              have hk : k ≠ d := fun e => hij (hc.one i j o p d ho hp (by rw [hod, e]) hpd)
              rw [Act.put_getD a k d v (by rw [hm.size]; exact dstB.lt hd k hod), if_neg hk]
              exact hold
        · intro d U hU hno
          have hno' : ∀ (j : Nat) (p : Oper), ops[j]? = some p → p.dst = some d → listed.getD j false = false := by
            intro j p hp hpd
            have := hno j p hp hpd
            rw [getD_set hlt'] at this
            split at this
            · cases this
            · exact this
          have hold := U.mono hext.le (hm.rest d U hU hno')
          cases hod : o.dst with
          | none => simpa [Act.put] using hold
          | some k =>
            have hk : k ≠ d := by
              intro e
              have := hno i o ho (by rw [hod, e])
              rw [getD_set hlt', if_pos rfl] at this
              cases this
            rw [Act.put_getD a k d v (by rw [hm.size]; exact dstB.lt hd k hod), if_neg hk]
            exact hold)
    unfold wpOp
    rw [ho]
    dsimp only
    split
    · rename_i hw; rw [if_pos hw] at hstep; exact .inl hstep
    · rename_i hw; rw [if_neg hw] at hstep; exact hstep

theorem HT.regionA {F : FCtx} {E : Env} {L : List Res} {Q : Exit → Act → World → Prop} {id : Nat} {ops : Array Oper} (hm : F.P.follows .mixedOrders = true) (hE : E.okB F.N = true) (hc : chkA ops = true) (h : RegA F ops L (fun E' => HX F E' L Q .normal) ops.toList E) : HT F E L (.region id ops true) Q := by
  intro a w G S hi ht
  obtain ⟨Ts, h1, h2, h3⟩ := RegA.types _ _ h
  refine wp_region_any hm ?_
  have hdrew : Ext noZ G w G { w with drawn := w.drawn + 1 } := ⟨fun b o v hb => hi.ext.sat b o v hb, Imm.le.refl G, rfl, rfl, rfl, Nat.le_refl _, fun _ _ _ => ⟨rfl, fun _ => rfl⟩⟩
  refine wpAny_of (S := S) (Ts := Ts) (E := E) (L := L) (ChkA.of hc) (by simpa using h1) hE (fun i o T ho hT => ?_) h2 _ _ _ _ G ?_ ?_
  · exact h3 i o T (by simpa using ho) hT
  · refine ⟨hi.step0 hdrew, ht.size, ht.defers, by simp, ?_, ?_, fun d T hd _ => ht.get d T hd⟩
    · intro i o ho hl; simp [Array.getD_eq_getD_getElem?, Array.getElem?_replicate] at hl; split at hl <;> simp at hl
    · intro i o T d ho hT hl; simp [Array.getD_eq_getD_getElem?, Array.getElem?_replicate] at hl; split at hl <;> simp at hl
  · simp only [unlisted, Array.toList_replicate]
    exact Nat.le_trans (List.length_filter_le _ _) (by simp)

theorem HT.regionAl {F : FCtx} {E : Env} {L : List Res} {Q : Exit → Act → World → Prop} {id : Nat} {l : List Oper} (hm : F.P.follows .mixedOrders = true) (hE : E.okB F.N = true) (hc : chkA l.toArray = true) (h : RegA F l.toArray L (fun E' => HX F E' L Q .normal) l E) : HT F E L (.region id l.toArray true) Q :=
  HT.regionA hm hE hc (by simpa using h)
section
variable {F : FCtx} {E : Env} {L : List Res} {fin : Env → Prop} {ops : Array Oper} {o : Oper} {rest : List Oper}
theorem RegA.nil (h : fin E) : RegA F ops L fin [] E := h
theorem RegA.fe {d : Nat} {op : Op} {ty : TypeId} {pos : String} {after : Array Edge} (hd : Nat.blt d F.N = true) (h : ∃ T, OpP F.P L E ⟨some d, op, ty, pos, after, none⟩ T ∧ RegA F ops L fin rest ((d, T) :: E)) : RegA F ops L fin (⟨some d, op, ty, pos, after, none⟩ :: rest) E :=
  let ⟨T, h1, h2⟩ := h; ⟨T, hd, .free rfl h1, h2⟩
theorem RegA.fn {op : Op} {ty : TypeId} {pos : String} {after : Array Edge} (h : ∃ T, OpP F.P L E ⟨none, op, ty, pos, after, none⟩ T ∧ RegA F ops L fin rest E) : RegA F ops L fin (⟨none, op, ty, pos, after, none⟩ :: rest) E :=
  let ⟨T, h1, h2⟩ := h; ⟨T, rfl, .free rfl h1, h2⟩
theorem RegA.ge {d' : Nat} {op : Op} {ty : TypeId} {pos : String} {after : Array Edge} {j : Nat} {want b : Bool} {d : Nat} (hd : Nat.blt d' F.N = true) (hj : (ops[j]?).bind (·.dst) = some d) (he : E.get d = some (Is (.bool b))) (h : ∃ T, (b = want → OpP F.P L E ⟨some d', op, ty, pos, after, some (j, want)⟩ T) ∧ RegA F ops L fin rest ((d', TIf (b = want) T) :: E)) : RegA F ops L fin (⟨some d', op, ty, pos, after, some (j, want)⟩ :: rest) E :=
  let ⟨T, h1, h2⟩ := h; ⟨_, hd, .guarded rfl hj he (.is b want) h1, h2⟩
theorem RegA.gn {d' : Nat} {op : Op} {ty : TypeId} {pos : String} {after : Array Edge} {j : Nat} {want b : Bool} {d : Nat} {c : Prop} (hd : Nat.blt d' F.N = true) (hj : (ops[j]?).bind (·.dst) = some d) (he : E.get d = some (TIf c (Is (.bool b)))) (h : ∃ T, (c ∧ b = want → OpP F.P L E ⟨some d', op, ty, pos, after, some (j, want)⟩ T) ∧ RegA F ops L fin rest ((d', TIf (c ∧ b = want) T) :: E)) : RegA F ops L fin (⟨some d', op, ty, pos, after, some (j, want)⟩ :: rest) E :=
  let ⟨T, h1, h2⟩ := h; ⟨_, hd, .guarded rfl hj he (.nest c b want) h1, h2⟩
end
section
variable {P : Program} {L : List Res} {E : Env} {dst : Option Tmp} {op : Op} {ty : TypeId} {pos : String} {after : Array Edge} {gd : Option (Nat × Bool)} {K : Ty → Prop}
/-- The operation is of this form: the goal stays. -/
theorem isO (op : Op) (h : ∃ T, OpP P L E ⟨dst, op, ty, pos, after, gd⟩ T ∧ K T) : ∃ T, OpP P L E ⟨dst, op, ty, pos, after, gd⟩ T ∧ K T := h
theorem isG (op : Op) {c : Prop} (h : ∃ T, (c → OpP P L E ⟨dst, op, ty, pos, after, gd⟩ T) ∧ K T) : ∃ T, (c → OpP P L E ⟨dst, op, ty, pos, after, gd⟩ T) ∧ K T := h
theorem isS (op : Op) {F : FCtx} {Q : Exit → Act → World → Prop} {ops : Array Oper} {rest : List Oper} (h : RegS F ops Q (⟨dst, op, ty, pos, after, gd⟩ :: rest) E L) : RegS F ops Q (⟨dst, op, ty, pos, after, gd⟩ :: rest) E L := h
end
theorem isHX {F : FCtx} {E : Env} {L : List Res} {Q : Exit → Act → World → Prop} {e : Exit} (h : HX F E L Q e) : HX F E L Q e := h
theorem isHT {F : FCtx} {E : Env} {L : List Res} {Q : Exit → Act → World → Prop} {c : Code} (h : HT F E L c Q) : HT F E L c Q := h
theorem isRS {F : FCtx} {E : Env} {L : List Res} {Q : Exit → Act → World → Prop} {ops : Array Oper} {l : List Oper} (h : RegS F ops Q l E L) : RegS F ops Q l E L := h
theorem isRA {F : FCtx} {E : Env} {L : List Res} {fin : Env → Prop} {ops : Array Oper} {l : List Oper} (h : RegA F ops L fin l E) : RegA F ops L fin l E := h
end Go.Vk
