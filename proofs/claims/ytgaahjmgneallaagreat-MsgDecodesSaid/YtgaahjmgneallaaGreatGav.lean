/-
  The contracts of the document's readers: subs, pair.
  The contract of the document's reader of filters.
  The contract of the document's reader of filters: of one kind, of any kind.
  The contracts of the document's operations: bind, search, rename, compare, modify, add (printed by mkp2.py).
  The contract of the document's operation (printed by mkp3.py).
-/
import Derived.Test.YtgaahjmgneallaaGreatGau
import Derived.Test.YtgaahjmgneallaaGreatGat
set_option linter.unusedSimpArgs false
set_option linter.unusedVariables false
set_option linter.unusedVariables false
namespace Go.Ms
open Go.Vk
theorem peek_is {l : List It} {bad : Bool} {t : UInt8} (h : isI l bad t = true) : ((peekI l bad).toNat : Int) = (t.toNat : Int) := by
  obtain ⟨rfl, x, r, rfl, hx, _⟩ := takeI_is h
  have e : peekI (x :: r) false = x.1 := by simp [peekI]
  rw [e, hx]
theorem peek_not {l : List It} {bad : Bool} {t : UInt8} (h0 : t ≠ 0) (h : isI l bad t = false) : ¬ ((peekI l bad).toNat : Int) = (t.toNat : Int) := by
  intro e
  have e2 : peekI l bad = t := u8_i.1 e
  cases l with
  | nil => exact h0 e2.symm
  | cons x r =>
    cases bad with
    | true => exact h0 (by rw [← e2]; rfl)
    | false =>
      have e3 : peekI (x :: r) false = x.1 := by simp [peekI]
      rw [e3] at e2
      have h' : (!false && decide (x.1 = t)) = false := h
      rw [decide_eq_true e2] at h'
      cases h'
end Go.Ms
set_option maxRecDepth 8000
set_option linter.unusedVariables false
namespace Go.Proofs.YtgaahjmgneallaaGreat
open Go.Vk
attribute [local irreducible] HT HX RegS RegA RegM OpP OpC AltT
attribute [local irreducible] Ber.tagB Ber.lenB Ber.intB Ber.allE Ber.fromIntB Ber.nextB Ms.midB
set_option maxHeartbeats 4000000 in
theorem rdSubs (l : List Ms.It) (a : Nat) (bad : Bool) (hl : Ms.wI l ≤ 100000000) (ha : a ≤ l.length) : ∃ a', a' ≤ l.length ∧ l.drop a' = (Ms.subsM false (l.drop a) bad).2.1 ∧ ∀ g, CallsC Tryz.prog 139 [Is (pAt g 0)] [RX25 g l a bad] (fun _ => TSl 1 En.cS (Ms.subsM false (l.drop a) bad).1) (fun _ => [RX25 g l a' (Ms.subsM false (l.drop a) bad).2.2]) := by
  obtain ⟨a1, h1, h2, c1⟩ := rdInner l a bad 48 hl ha
  refine ⟨a1, h1, h2, fun g => ?_⟩
  have hw2 := Ms.inner_w (l.drop a) bad 48
  have hw3 := Ms.wI_drop l a
  unfold Ms.subsM Ms.innM
  dsimp only [Ms.xbM]
  clear h2
  generalize Ms.takeI (l.drop a) bad 48 = y at c1 hw2 ⊢
  generalize hpb : Ms.pbM false y = pb at c1 ⊢
  generalize hx : Ms.allI y.1 = x0 at c1 hw2 ⊢
  generalize hb : Ms.badI y.1 = b0 at c1 ⊢
  have hle := Ms.wI_len x0
  have d0 : ∀ g, CallsC Tryz.prog 46 [Is (pAt g 0), okI .u8 48] [RX25 g l a bad] (fun v => Is (pAt (blk v) 0)) (fun v => [RX25 g l a1 pb, RX25 (blk v) x0 0 b0]) := c1
  clear c1
  have c2 := fun g => rdPeek g x0 0 b0 (by omega) (Nat.zero_le _)
  rw [List.drop_zero] at c2
  have ma := MutA.mk' [8]
  have gv := Giv.mk' 2 2
  have hset : SetF (fun ts : List Ty => ts) 0 (fun x : List UInt8 => Is (str x)) (fun ts x => ts.set 0 (Is (str x))) := ⟨fun _ _ => rfl⟩
  cases hi : Ms.isI x0 b0 128 with
  | true =>
    have f0 : ((Ms.peekI x0 b0).toNat : Int) = 128 := Ms.peek_is hi
    obtain ⟨hb0, it0, r0, hd0, ht0, et0⟩ := Ms.takeI_is hi
    obtain ⟨i0, k1, k2, c3⟩ := rdBody x0 0 b0 128 (by omega) (Nat.zero_le _)
    rw [List.drop_zero, et0] at k2 c3
    dsimp only at k2 c3
    have hi0 : i0 = 1 := by
      have := congrArg List.length k2
      rw [List.length_drop] at this
      rw [hd0, List.length_cons] at this
      rw [hd0, List.length_cons] at k1
      omega
    subst hi0
    have hF : Ms.mayI x0 b0 128 = (it0.2, x0.drop 1, false) := by unfold Ms.mayI; rw [if_pos hi, et0, k2]
    have c4 : ∀ g, CallsC Tryz.prog 47 [Is (pAt g 0), okI .u8 128] [RX25 g x0 0 b0] (fun _ => TBytes it0.2) (fun _ => [RX25 g x0 1 false]) := c3
    generalize ((Ms.peekI x0 b0).toNat : Int) = p at c2 f0
    clear c3 et0 hd0 k2
    refine CallsC.of Tryz.call139 Tryz.func139 rfl Tryz.ntmps139 rfl fun w0 G0 S0 hs ho => ?_
    refine run ?_
    intro v0 v1 _
    clear c2 c4 d0
    rw [show ownA (sblk v1) (scap v1) 9 1 (fun ts : List Ty => ts) [([[Is (.string { data := #[] })]].getD 0 default).set 0 (Is (str it0.2))] = ownA (sblk v1) (scap v1) 9 1 En.cS [it0.2] from ownA_map En.cS [it0.2]]
    refine HT.loopX (σ := List (List UInt8) × Nat × Nat × Nat) [0, 2, 3] (fun t => [(4, Is (slAt t.2.2.1 t.1.length t.2.2.2))]) (fun t => [RX25 g l a1 pb, RX25 (blk v0) x0 t.2.1 false, ownA t.2.2.1 t.2.2.2 9 1 En.cS t.1]) (fun t => t.2.1 ≤ x0.length ∧ (0 < t.1.length ∧ t.1.length ≤ t.2.1 + 1) ∧ t.1 ++ (Ms.midB false (x0.drop t.2.1)).1 = [it0.2] ++ (Ms.midB false (x0.drop 1)).1 ∧ (Ms.midB false (x0.drop t.2.1)).2 = (Ms.midB false (x0.drop 1)).2) (fun t => x0.length - t.2.1) ([it0.2], 1, sblk v1, scap v1) ⟨by dsimp only; omega, ⟨by simp, by simp⟩, rfl, rfl⟩ (by first | exact run trivial | (refine run ?_; rfl)) (by first | exact run trivial | (refine run ?_; rfl)) ?_
    rintro ⟨acc, i, bk, cp⟩ ⟨h1, h2, h3, h4⟩
    dsimp only at h1 h2 h3 h4 ⊢
    have d1 := fun g => rdPeek g x0 i false (by omega) h1
    cases hm : Ms.isI (x0.drop i) false 129 with
    | true =>
      have f1 : ((Ms.peekI (x0.drop i) false).toNat : Int) = 129 := Ms.peek_is hm
      obtain ⟨hb2, it, r, hd, ht, et⟩ := Ms.takeI_is hm
      obtain ⟨e1, e2, e3⟩ := Ms.drop_at hd
      obtain ⟨i', k1, k2, d2⟩ := rdBody x0 i false 129 (by omega) h1
      rw [et] at k2 d2
      dsimp only at k2 d2
      have hi' : i' = i + 1 := by
        have := congrArg List.length k2
        rw [← e3, List.length_drop, List.length_drop] at this
        omega
      subst hi'
      rw [hd, Ms.midB_go hb2 ht] at h3 h4
      dsimp only at h3 h4
      rw [← e3] at h3 h4
      have d3 : ∀ g, CallsC Tryz.prog 47 [Is (pAt g 0), okI .u8 129] [RX25 g x0 i false] (fun _ => TBytes it.2) (fun _ => [RX25 g x0 (i + 1) false]) := d2
      rw [← hb2] at d3
      generalize ((Ms.peekI (x0.drop i) false).toNat : Int) = p at d1 f1
      clear d2 et hd e2 e3 k2
      refine run ?_
      intro v2 _
      refine HX.roundX (acc ++ [it.2], i + 1, sblk v2, scap v2) ⟨⟨by dsimp only; omega, ⟨by simp, by simp only [List.length_append, List.length_singleton]; omega⟩, by dsimp only; rw [List.append_assoc]; exact h3, h4⟩, by dsimp only; omega⟩ rfl (run trivial) (run trivial)
    | false =>
      have f1 : ¬ ((Ms.peekI (x0.drop i) false).toNat : Int) = 129 := Ms.peek_not (t := 129) (by decide) hm
      rw [Ms.midB_end hm] at h3 h4
      rw [List.append_nil] at h3
      dsimp only at h4
      have eK : Ms.subsK x0 b0 = (acc ++ [(Ms.mayI (x0.drop i) false 130).1], (Ms.mayI (x0.drop i) false 130).2) := by
        rw [Ms.subsK_def, hF]
        dsimp only
        rw [← h4]
        rw [List.singleton_append] at h3
        rw [h3]
        rfl
      rw [eK]
      dsimp only
      clear h3 h4 eK
      cases he : Ms.isI (x0.drop i) false 130 with
      | true =>
        have f2 : ((Ms.peekI (x0.drop i) false).toNat : Int) = 130 := Ms.peek_is he
        obtain ⟨hb2, it, r, hd, ht, et⟩ := Ms.takeI_is he
        obtain ⟨i', k1, k2, d2⟩ := rdBody x0 i false 130 (by omega) h1
        have em : Ms.mayI (x0.drop i) false 130 = (it.2, r, false) := by unfold Ms.mayI; rw [if_pos he, et]
        rw [et] at k2 d2
        rw [em]
        dsimp only at k2 d2 ⊢
        have d4 := fun g g2 => rdEnd g g2 l x0 a1 i' pb false (by omega) k1
        rw [k2] at d4
        have d3 : ∀ g, CallsC Tryz.prog 47 [Is (pAt g 0), okI .u8 130] [RX25 g x0 i false] (fun _ => TBytes it.2) (fun _ => [RX25 g x0 i' false]) := d2
        generalize ((Ms.peekI (x0.drop i) false).toNat : Int) = p at d1 f1 f2
        clear d2 et hd k2
        exact run trivial
      | false =>
        have f2 : ¬ ((Ms.peekI (x0.drop i) false).toNat : Int) = 130 := Ms.peek_not (t := 130) (by decide) he
        have em : Ms.mayI (x0.drop i) false 130 = ([], x0.drop i, false) := by unfold Ms.mayI; rw [if_neg (by rw [he]; simp)]
        rw [em]
        dsimp only
        have d4 := fun g g2 => rdEnd g g2 l x0 a1 i pb false (by omega) h1
        generalize ((Ms.peekI (x0.drop i) false).toNat : Int) = p at d1 f1 f2
        exact run trivial
  | false =>
    have f0 : ¬ ((Ms.peekI x0 b0).toNat : Int) = 128 := Ms.peek_not (t := 128) (by decide) hi
    have hF : Ms.mayI x0 b0 128 = ([], x0.drop 0, b0) := by unfold Ms.mayI; rw [if_neg (by rw [hi]; simp), List.drop_zero]
    generalize ((Ms.peekI x0 b0).toNat : Int) = p at c2 f0
    refine CallsC.of Tryz.call139 Tryz.func139 rfl Tryz.ntmps139 rfl fun w0 G0 S0 hs ho => ?_
    refine run ?_
    intro v0 v1 _
    clear c2 d0
    rw [show ownA (sblk v1) (scap v1) 9 1 (fun ts : List Ty => ts) [[Is (.string { data := #[] })]] = ownA (sblk v1) (scap v1) 9 1 En.cS [[]] from ownA_map En.cS [[]]]
    refine HT.loopX (σ := List (List UInt8) × Nat × Nat × Nat) [0, 2, 3] (fun t => [(4, Is (slAt t.2.2.1 t.1.length t.2.2.2))]) (fun t => [RX25 g l a1 pb, RX25 (blk v0) x0 t.2.1 b0, ownA t.2.2.1 t.2.2.2 9 1 En.cS t.1]) (fun t => t.2.1 ≤ x0.length ∧ (0 < t.1.length ∧ t.1.length ≤ t.2.1 + 1) ∧ t.1 ++ (Ms.midB b0 (x0.drop t.2.1)).1 = [[]] ++ (Ms.midB b0 (x0.drop 0)).1 ∧ (Ms.midB b0 (x0.drop t.2.1)).2 = (Ms.midB b0 (x0.drop 0)).2) (fun t => x0.length - t.2.1) ([[]], 0, sblk v1, scap v1) ⟨by dsimp only; omega, ⟨by simp, by simp⟩, rfl, rfl⟩ (by first | exact run trivial | (refine run ?_; rfl)) (by first | exact run trivial | (refine run ?_; rfl)) ?_
    rintro ⟨acc, i, bk, cp⟩ ⟨h1, h2, h3, h4⟩
    dsimp only at h1 h2 h3 h4 ⊢
    have d1 := fun g => rdPeek g x0 i b0 (by omega) h1
    cases hm : Ms.isI (x0.drop i) b0 129 with
    | true =>
      have f1 : ((Ms.peekI (x0.drop i) b0).toNat : Int) = 129 := Ms.peek_is hm
      obtain ⟨hb2, it, r, hd, ht, et⟩ := Ms.takeI_is hm
      obtain ⟨e1, e2, e3⟩ := Ms.drop_at hd
      obtain ⟨i', k1, k2, d2⟩ := rdBody x0 i b0 129 (by omega) h1
      rw [et] at k2 d2
      dsimp only at k2 d2
      have hi' : i' = i + 1 := by
        have := congrArg List.length k2
        rw [← e3, List.length_drop, List.length_drop] at this
        omega
      subst hi'
      rw [hd, Ms.midB_go hb2 ht] at h3 h4
      dsimp only at h3 h4
      rw [← e3] at h3 h4
      have d3 : ∀ g, CallsC Tryz.prog 47 [Is (pAt g 0), okI .u8 129] [RX25 g x0 i b0] (fun _ => TBytes it.2) (fun _ => [RX25 g x0 (i + 1) false]) := d2
      rw [← hb2] at d3
      generalize ((Ms.peekI (x0.drop i) b0).toNat : Int) = p at d1 f1
      clear d2 et hd e2 e3 k2
      refine run ?_
      intro v2 _
      refine HX.roundX (acc ++ [it.2], i + 1, sblk v2, scap v2) ⟨⟨by dsimp only; omega, ⟨by simp, by simp only [List.length_append, List.length_singleton]; omega⟩, by dsimp only; rw [List.append_assoc]; exact h3, h4⟩, by dsimp only; omega⟩ rfl (run trivial) (run trivial)
    | false =>
      have f1 : ¬ ((Ms.peekI (x0.drop i) b0).toNat : Int) = 129 := Ms.peek_not (t := 129) (by decide) hm
      rw [Ms.midB_end hm] at h3 h4
      rw [List.append_nil] at h3
      dsimp only at h4
      have eK : Ms.subsK x0 b0 = (acc ++ [(Ms.mayI (x0.drop i) b0 130).1], (Ms.mayI (x0.drop i) b0 130).2) := by
        rw [Ms.subsK_def, hF]
        dsimp only
        rw [← h4]
        rw [List.singleton_append] at h3
        rw [h3]
        rfl
      rw [eK]
      dsimp only
      clear h3 h4 eK
      cases he : Ms.isI (x0.drop i) b0 130 with
      | true =>
        have f2 : ((Ms.peekI (x0.drop i) b0).toNat : Int) = 130 := Ms.peek_is he
        obtain ⟨hb2, it, r, hd, ht, et⟩ := Ms.takeI_is he
        obtain ⟨i', k1, k2, d2⟩ := rdBody x0 i b0 130 (by omega) h1
        have em : Ms.mayI (x0.drop i) b0 130 = (it.2, r, false) := by unfold Ms.mayI; rw [if_pos he, et]
        rw [et] at k2 d2
        rw [em]
        dsimp only at k2 d2 ⊢
        have d4 := fun g g2 => rdEnd g g2 l x0 a1 i' pb false (by omega) k1
        rw [k2] at d4
        have d3 : ∀ g, CallsC Tryz.prog 47 [Is (pAt g 0), okI .u8 130] [RX25 g x0 i b0] (fun _ => TBytes it.2) (fun _ => [RX25 g x0 i' false]) := d2
        generalize ((Ms.peekI (x0.drop i) b0).toNat : Int) = p at d1 f1 f2
        clear d2 et hd k2
        exact run trivial
      | false =>
        have f2 : ¬ ((Ms.peekI (x0.drop i) b0).toNat : Int) = 130 := Ms.peek_not (t := 130) (by decide) he
        have em : Ms.mayI (x0.drop i) b0 130 = ([], x0.drop i, b0) := by unfold Ms.mayI; rw [if_neg (by rw [he]; simp)]
        rw [em]
        dsimp only
        have d4 := fun g g2 => rdEnd g g2 l x0 a1 i pb b0 (by omega) h1
        generalize ((Ms.peekI (x0.drop i) b0).toNat : Int) = p at d1 f1 f2
        exact run trivial
set_option maxHeartbeats 4000000 in
theorem rdPair (l : List Ms.It) (a : Nat) (bad : Bool) (t : UInt8) (k : Int) (hl : Ms.wI l ≤ 100000000) (ha : a ≤ l.length) : ∃ a', a' ≤ l.length ∧ l.drop a' = (Ms.innM false t Ms.pairK (l.drop a) bad).2.1 ∧ ∀ g, CallsC Tryz.prog 138 [Is (pAt g 0), okI .u8 (t.toNat : Int), okI .i64 k] [RX25 g l a bad] (fun _ => TAgg (Fi.cF (.mk k (Ms.innM false t Ms.pairK (l.drop a) bad).1.1 (Ms.innM false t Ms.pairK (l.drop a) bad).1.2 [] []))) (fun _ => [RX25 g l a' (Ms.innM false t Ms.pairK (l.drop a) bad).2.2]) := by
  obtain ⟨a1, h1, h2, c1⟩ := rdInner l a bad t hl ha
  refine ⟨a1, h1, h2, fun g => ?_⟩
  have hw2 := Ms.inner_w (l.drop a) bad t
  have hw3 := Ms.wI_drop l a
  unfold Ms.innM Ms.pairK
  dsimp only [Ms.xbM]
  rw [Fi.cF_open]
  dsimp only [Fi.Fil.kind, Fi.Fil.typ, Fi.Fil.val, Fi.Fil.subs, Fi.Fil.kids]
  clear h2
  generalize Ms.takeI (l.drop a) bad t = y at c1 hw2 ⊢
  generalize hpb : Ms.pbM false y = pb at c1 ⊢
  generalize hx : Ms.allI y.1 = x0 at c1 hw2 ⊢
  generalize hb : Ms.badI y.1 = b0 at c1 ⊢
  have e : ∀ x b, Ms.textI x b = Ms.takeI x b 4 := fun _ _ => rfl
  rw [e, e]
  obtain ⟨i1, k1, k2, c2⟩ := rdBody x0 0 b0 4 (by omega) (Nat.zero_le _)
  rw [List.drop_zero] at k2 c2
  generalize Ms.takeI x0 b0 4 = p at c2 k2 ⊢
  obtain ⟨i2, k3, k4, c3⟩ := rdBody x0 i1 p.2.2 4 (by omega) k1
  rw [k2] at k4 c3
  generalize Ms.takeI p.2.1 p.2.2 4 = q at c3 k4 ⊢
  have c4 := fun g g2 => rdEnd g g2 l x0 a1 i2 pb q.2.2 (by omega) k3
  rw [k4] at c4
  have d2 : ∀ g, CallsC Tryz.prog 47 [Is (pAt g 0), okI .u8 4] [RX25 g x0 0 b0] (fun _ => TBytes p.1) (fun _ => [RX25 g x0 i1 p.2.2]) := c2
  have kk : Hold (∀ g, CallsC Tryz.prog 47 [Is (pAt g 0), okI .u8 4] [RX25 g x0 i1 p.2.2] (fun _ => TBytes q.1) (fun _ => [RX25 g x0 i2 q.2.2])) := ⟨c3⟩
  clear c2 c3 k2 k4
  have st := Stop.mk' 3
  refine CallsC.of Tryz.call138 Tryz.func138 rfl Tryz.ntmps138 rfl fun w0 G0 S0 hs ho => ?_
  refine run ?_
  intros
  refine HTs.mk ?_
  have d3 := kk.h
  clear st d2 kk
  exact run trivial
end Go.Proofs.YtgaahjmgneallaaGreat
set_option linter.unusedVariables false
namespace Go.Ms
open Go.Vk
open Go.Fi (Fil)
theorem filtD_eats (n : Nat) : Eats (filtD n) := by
  intro l h
  have e := ((filt_eqv n l false).1 h).1
  rw [← e] at h ⊢
  exact filtP_eats n l h
theorem filtD_S (n : Nat) (l : List It) (bad : Bool) : filtD (n + 1) l bad = (let t := peekI l bad
    if t = 160 ∨ t = 161 ∨ t = 162 then let z := innM false t (repA (filtD n)) l bad; (.mk ((t.toNat : Int) - 160) [] [] [] z.1, z.2)
    else if t = 163 ∨ t = 165 ∨ t = 166 then let z := innM false t pairK l bad; (.mk ((t.toNat : Int) - 160) z.1.1 z.1.2 [] [], z.2)
    else if t = 168 then let z := innM false t pairK l bad; (.mk 3 z.1.1 z.1.2 [] [], z.2)
    else if t = 164 then let z := innM false t (leafK false) l bad; (.mk 4 z.1.1 [] z.1.2 [], z.2)
    else let y := takeI l bad 135; (.mk 7 y.1 [] [] [], y.2)) := by
  conv => lhs; unfold filtD
theorem filtD_len (n : Nat) (l : List It) (bad : Bool) : (filtD n l bad).2.1.length ≤ l.length := by
  cases n with
  | zero => exact Nat.le_refl _
  | succ n =>
    rw [filtD_S]
    dsimp only
    split
    · exact takeI_len _ _ _
    split
    · exact takeI_len _ _ _
    split
    · exact takeI_len _ _ _
    split
    · exact takeI_len _ _ _
    · exact takeI_len _ _ _
theorem peek_v {t : UInt8} {n : Nat} (hn : n < 256) (h : t ≠ UInt8.ofNat n) : ¬ (t.toNat : Int) = (n : Int) := fun e => h (by
    apply UInt8.toNat_inj.1
    rw [UInt8.toNat_ofNat']
    omega)
end Go.Ms
set_option maxRecDepth 8000
set_option linter.unusedVariables false
namespace Go.Proofs.YtgaahjmgneallaaGreat
open Go.Vk
attribute [local irreducible] HT HX RegS RegA RegM OpP OpC AltT
attribute [local irreducible] Ber.tagB Ber.lenB Ber.intB Ber.allE Ber.fromIntB Ber.nextB Ms.midB Ms.filtD Ms.subsM
/-- The contract of the document's reader of filters that hold others so deep. -/
def FiltDC (n : Nat) : Prop := ∀ (l : List Ms.It) (a : Nat) (bad : Bool), Ms.wI l ≤ 100000000 → a ≤ l.length → ∃ a', a' ≤ l.length ∧ l.drop a' = (Ms.filtD n (l.drop a) bad).2.1 ∧ ∀ g, CallsC Tryz.prog 122 [Is (pAt g 0), okI .i64 (17 - (n : Int))] [RX25 g l a bad] (fun _ => TAgg (Fi.cF (Ms.filtD n (l.drop a) bad).1)) (fun _ => [RX25 g l a' (Ms.filtD n (l.drop a) bad).2.2])
theorem rdFilt0 : FiltDC 0 := by
  intro l a bad hl ha
  have e : Ms.filtD 0 (l.drop a) bad = (Fi.zeroF, l.drop a, true) := by unfold Ms.filtD; rfl
  rw [e]
  dsimp only
  refine ⟨a, ha, rfl, fun g => ?_⟩
  rw [Fi.cF_open]
  have c1 := rdPeek g l a bad hl ha
  refine CallsC.of Tryz.call122 Tryz.func122 rfl Tryz.ntmps122 rfl fun w0 G0 S0 hs ho => ?_
  refine run ?_
  and_intros <;> intros <;> rfl
set_option maxHeartbeats 4000000 in
theorem rdFiltK (n : Nat) (hn : n + 1 ≤ 16) (IH : FiltDC n) (l : List Ms.It) (a : Nat) (bad : Bool) (hl : Ms.wI l ≤ 100000000) (ha : a ≤ l.length) (t : UInt8) (ht : Ms.peekI (l.drop a) bad = t) (hk : t = 160 ∨ t = 161 ∨ t = 162) : ∃ a', a' ≤ l.length ∧ l.drop a' = (Ms.innM false t (Ms.repA (Ms.filtD n)) (l.drop a) bad).2.1 ∧ ∀ g, CallsC Tryz.prog 122 [Is (pAt g 0), okI .i64 (17 - ((n + 1 : Nat) : Int))] [RX25 g l a bad] (fun _ => TAgg (Fi.cF (.mk ((t.toNat : Int) - 160) [] [] [] (Ms.innM false t (Ms.repA (Ms.filtD n)) (l.drop a) bad).1))) (fun _ => [RX25 g l a' (Ms.innM false t (Ms.repA (Ms.filtD n)) (l.drop a) bad).2.2]) := by
  obtain ⟨a1, h1, h2, c2⟩ := rdInner l a bad t hl ha
  refine ⟨a1, h1, h2, fun g => ?_⟩
  have c1 := rdPeek g l a bad hl ha
  rw [ht] at c1
  have hw2 := Ms.inner_w (l.drop a) bad t
  have hw3 := Ms.wI_drop l a
  unfold Ms.innM
  dsimp only [Ms.xbM]
  rw [Fi.cF_open]
  dsimp only [Fi.Fil.kind, Fi.Fil.typ, Fi.Fil.val, Fi.Fil.subs, Fi.Fil.kids]
  clear h2 ht
  have hp : (t.toNat : Int) = 160 ∨ (t.toNat : Int) = 161 ∨ (t.toNat : Int) = 162 := by
    rcases hk with rfl | rfl | rfl
    · exact .inl rfl
    · exact .inr (.inl rfl)
    · exact .inr (.inr rfl)
  generalize Ms.takeI (l.drop a) bad t = y at c2 hw2 ⊢
  generalize hpb : Ms.pbM false y = pb at c2 ⊢
  generalize hx : Ms.allI y.1 = x0 at c2 hw2 ⊢
  generalize hb : Ms.badI y.1 = b0 at c2 ⊢
  generalize (t.toNat : Int) = p at c1 c2 hp ⊢
  have hlx := Ms.wI_len x0
  have hdp : (17 : Int) - ((n + 1 : Nat) : Int) + 1 = 17 - (n : Int) := by omega
  have pl := Plan.mk' 12 [(0,3,[]),(2,3,[]),(3,3,[]),(4,3,[]),(8,3,[]),(1,2,[3]),(5,0,[3]),(6,3,[]),(7,0,[]),(9,0,[])]
  refine CallsC.of Tryz.call122 Tryz.func122 rfl Tryz.ntmps122 rfl fun w0 G0 S0 hs ho => ?_
  refine run ?_
  refine ⟨?_, ?_, ?_⟩ <;> intro v4 vx v7 <;> intros
  all_goals
    clear c1 c2
    refine HT.loopX (σ := (List Fi.Fil × Nat × Bool) × Value) [0, 1, 4, 5, 6, 7, 18] (fun t' => []) (fun t' => [RX25 g l a1 pb, ownP (blk v4) 43 [Is (.int .i64 0), Is (str []), Is (str []), Is (.slice none 0 0), Is (.slice none 0 0)], RX25 (blk vx) x0 t'.1.2.1 t'.1.2.2, ownP (blk v7) 43 [okI .i64 (p - 160), Is (str []), Is (str []), Is (.slice none 0 0), TAnd (Is t'.2) (TSl 5 Fi.cF t'.1.1)], ownSl t'.2 5 43]) (fun t' => t'.1.2.1 ≤ x0.length ∧ (t'.1.2.2 = false → t'.1.1.length ≤ t'.1.2.1) ∧ t'.1.1.length ≤ x0.length + 1 ∧ t'.1.1 ++ (Ms.repA (Ms.filtD n) (x0.drop t'.1.2.1) t'.1.2.2).1 = (Ms.repA (Ms.filtD n) x0 b0).1 ∧ (Ms.repA (Ms.filtD n) (x0.drop t'.1.2.1) t'.1.2.2).2 = (Ms.repA (Ms.filtD n) x0 b0).2) (fun t' => x0.length - t'.1.2.1 + (if t'.1.2.2 then 0 else 1)) (([], 0, b0), .slice none 0 0) ⟨Nat.zero_le _, fun _ => by simp, by simp, rfl, rfl⟩ (run trivial) (run trivial) ?_
    rintro ⟨⟨acc, i, b⟩, w⟩ ⟨h1, h2, h5, h3, h4⟩
    dsimp only at h1 h2 h3 h4 h5 ⊢
    by_cases hgo : x0.drop i ≠ [] ∧ b = false
    · obtain ⟨hne, rfl⟩ := hgo
      rw [Ms.repA_go (Ms.filtD_eats n) hne] at h3 h4
      dsimp only at h3 h4
      have h2 := h2 rfl
      have hi := Ms.drop_ne.1 hne
      obtain ⟨i', k1, k2, c3⟩ := IH x0 i false (by omega) h1
      rw [← hdp] at c3
      have hea := Ms.filtD_eats n (x0.drop i)
      have hlen := Ms.filtD_len n (x0.drop i) false
      rw [← k2] at h3 h4 hea hlen
      clear k2
      generalize Ms.filtD n (x0.drop i) false = z at c3 hea hlen h3 h4
      rw [List.length_drop, List.length_drop] at hea hlen
      refine run ?_
      intro v' _
      refine HX.roundX ((acc ++ [z.1], i', z.2.2), v') ⟨⟨by dsimp only; omega, fun hz => by have := hea hz; simp only [List.length_append, List.length_singleton]; omega, by simp only [List.length_append, List.length_singleton]; omega, by dsimp only; rw [List.append_assoc]; exact h3, h4⟩, ?_⟩ rfl (run trivial) (run trivial)
      dsimp only
      split
      · simp; omega
      · rename_i hz
        have := hea (by simpa using hz)
        simp; omega
    · have hend := Ms.repA_end (step := Ms.filtD n) hgo
      rw [hend] at h3 h4
      rw [List.append_nil] at h3
      dsimp only at h4
      rw [← h3, ← h4]
      have c3 := fun g g2 => rdEnd g g2 l x0 a1 i pb b (by omega) h1
      refine run ?_
      intros
      rename_i hh
      exact absurd ⟨Ms.drop_ne.2 (by omega), hh.1⟩ hgo

end Go.Proofs.YtgaahjmgneallaaGreat
set_option linter.unusedVariables false
set_option maxRecDepth 8000
set_option linter.unusedVariables false
namespace Go.Proofs.YtgaahjmgneallaaGreat
open Go.Vk
attribute [local irreducible] HT HX RegS RegA RegM OpP OpC AltT
attribute [local irreducible] Ber.tagB Ber.lenB Ber.intB Ber.allE Ber.fromIntB Ber.nextB Ms.midB Ms.filtD Ms.subsM
set_option maxHeartbeats 4000000 in
theorem rdFiltP (n : Nat) (hn : n + 1 ≤ 16) (l : List Ms.It) (a : Nat) (bad : Bool) (hl : Ms.wI l ≤ 100000000) (ha : a ≤ l.length) (t : UInt8) (ht : Ms.peekI (l.drop a) bad = t) (k : Int) (hk : ((t = 163 ∨ t = 165 ∨ t = 166) ∧ k = (t.toNat : Int) - 160) ∨ (t = 168 ∧ k = 3)) : ∃ a', a' ≤ l.length ∧ l.drop a' = (Ms.innM false t Ms.pairK (l.drop a) bad).2.1 ∧ ∀ g, CallsC Tryz.prog 122 [Is (pAt g 0), okI .i64 (17 - ((n + 1 : Nat) : Int))] [RX25 g l a bad] (fun _ => TAgg (Fi.cF (.mk k (Ms.innM false t Ms.pairK (l.drop a) bad).1.1 (Ms.innM false t Ms.pairK (l.drop a) bad).1.2 [] []))) (fun _ => [RX25 g l a' (Ms.innM false t Ms.pairK (l.drop a) bad).2.2]) := by
  obtain ⟨a1, h1, h2, c2⟩ := rdPair l a bad t k hl ha
  refine ⟨a1, h1, h2, fun g => ?_⟩
  have c1 := rdPeek g l a bad hl ha
  rw [ht] at c1
  clear h2 ht
  generalize Ms.innM false t Ms.pairK (l.drop a) bad = z at c2 ⊢
  rw [Fi.cF_open] at c2 ⊢
  dsimp only [Fi.Fil.kind, Fi.Fil.typ, Fi.Fil.val, Fi.Fil.subs, Fi.Fil.kids] at c2 ⊢
  have hp : ((t.toNat : Int) = 163 ∨ (t.toNat : Int) = 165 ∨ (t.toNat : Int) = 166) ∧ k = (t.toNat : Int) - 160 ∨ (t.toNat : Int) = 168 ∧ k = 3 := by
    rcases hk with ⟨rfl | rfl | rfl, h⟩ | ⟨rfl, h⟩
    · exact .inl ⟨.inl rfl, h⟩
    · exact .inl ⟨.inr (.inl rfl), h⟩
    · exact .inl ⟨.inr (.inr rfl), h⟩
    · exact .inr ⟨rfl, h⟩
  clear hk
  generalize (t.toNat : Int) = p at c1 c2 hp ⊢
  rcases hp with ⟨hp, rfl⟩ | ⟨hp, rfl⟩
  · refine CallsC.of Tryz.call122 Tryz.func122 rfl Tryz.ntmps122 rfl fun w0 G0 S0 hs ho => ?_
    exact run trivial
  · refine CallsC.of Tryz.call122 Tryz.func122 rfl Tryz.ntmps122 rfl fun w0 G0 S0 hs ho => ?_
    exact run trivial
set_option maxHeartbeats 4000000 in
theorem rdFiltL (n : Nat) (hn : n + 1 ≤ 16) (l : List Ms.It) (a : Nat) (bad : Bool) (hl : Ms.wI l ≤ 100000000) (ha : a ≤ l.length) (ht : Ms.peekI (l.drop a) bad = 164) : ∃ a', a' ≤ l.length ∧ l.drop a' = (Ms.innM false 164 (Ms.leafK false) (l.drop a) bad).2.1 ∧ ∀ g, CallsC Tryz.prog 122 [Is (pAt g 0), okI .i64 (17 - ((n + 1 : Nat) : Int))] [RX25 g l a bad] (fun _ => TAgg (Fi.cF (.mk 4 (Ms.innM false 164 (Ms.leafK false) (l.drop a) bad).1.1 [] (Ms.innM false 164 (Ms.leafK false) (l.drop a) bad).1.2 []))) (fun _ => [RX25 g l a' (Ms.innM false 164 (Ms.leafK false) (l.drop a) bad).2.2]) := by
  obtain ⟨a1, h1, h2, c2⟩ := rdInner l a bad 164 hl ha
  refine ⟨a1, h1, h2, fun g => ?_⟩
  have c1 := rdPeek g l a bad hl ha
  rw [ht] at c1
  have c1' : CallsC Tryz.prog 45 [Is (pAt g 0)] [RX25 g l a bad] (fun _ => okI .u8 164) (fun _ => [RX25 g l a bad]) := c1
  have hw2 := Ms.inner_w (l.drop a) bad 164
  have hw3 := Ms.wI_drop l a
  unfold Ms.innM Ms.leafK
  dsimp only [Ms.xbM]
  rw [Fi.cF_open]
  dsimp only [Fi.Fil.kind, Fi.Fil.typ, Fi.Fil.val, Fi.Fil.subs, Fi.Fil.kids]
  clear h2 ht c1
  generalize Ms.takeI (l.drop a) bad 164 = y at c2 hw2 ⊢
  generalize hpb : Ms.pbM false y = pb at c2 ⊢
  generalize hx : Ms.allI y.1 = x0 at c2 hw2 ⊢
  generalize hb : Ms.badI y.1 = b0 at c2 ⊢
  have e : ∀ x b, Ms.textI x b = Ms.takeI x b 4 := fun _ _ => rfl
  rw [e]
  obtain ⟨i1, k1, k2, c3⟩ := rdBody x0 0 b0 4 (by omega) (Nat.zero_le _)
  rw [List.drop_zero] at k2 c3
  generalize Ms.takeI x0 b0 4 = p at c3 k2 ⊢
  obtain ⟨i2, k3, k4, c4⟩ := rdSubs x0 i1 p.2.2 (by omega) k1
  rw [k2] at k4 c4
  generalize Ms.subsM false p.2.1 p.2.2 = q at c4 k4 ⊢
  have c5 := fun g g2 => rdEnd g g2 l x0 a1 i2 pb q.2.2 (by omega) k3
  rw [k4] at c5
  have d2 : ∀ g, CallsC Tryz.prog 46 [Is (pAt g 0), okI .u8 164] [RX25 g l a bad] (fun v => Is (pAt (blk v) 0)) (fun v => [RX25 g l a1 pb, RX25 (blk v) x0 0 b0]) := c2
  have d3 : ∀ g, CallsC Tryz.prog 47 [Is (pAt g 0), okI .u8 4] [RX25 g x0 0 b0] (fun _ => TBytes p.1) (fun _ => [RX25 g x0 i1 p.2.2]) := c3
  clear c2 c3 k2 k4 e
  refine CallsC.of Tryz.call122 Tryz.func122 rfl Tryz.ntmps122 rfl fun w0 G0 S0 hs ho => ?_
  exact run trivial
set_option maxHeartbeats 4000000 in
theorem rdFiltB (n : Nat) (hn : n + 1 ≤ 16) (l : List Ms.It) (a : Nat) (bad : Bool) (hl : Ms.wI l ≤ 100000000) (ha : a ≤ l.length) (t : UInt8) (ht : Ms.peekI (l.drop a) bad = t) (h0 : t ≠ 160) (h1 : t ≠ 161) (h2 : t ≠ 162) (h3 : t ≠ 163) (h4 : t ≠ 164) (h5 : t ≠ 165) (h6 : t ≠ 166) (h8 : t ≠ 168) : ∃ a', a' ≤ l.length ∧ l.drop a' = (Ms.takeI (l.drop a) bad 135).2.1 ∧ ∀ g, CallsC Tryz.prog 122 [Is (pAt g 0), okI .i64 (17 - ((n + 1 : Nat) : Int))] [RX25 g l a bad] (fun _ => TAgg (Fi.cF (.mk 7 (Ms.takeI (l.drop a) bad 135).1 [] [] []))) (fun _ => [RX25 g l a' (Ms.takeI (l.drop a) bad 135).2.2]) := by
  obtain ⟨a1, k1, k2, c2⟩ := rdBody l a bad 135 hl ha
  refine ⟨a1, k1, k2, fun g => ?_⟩
  have c1 := rdPeek g l a bad hl ha
  rw [ht] at c1
  rw [Fi.cF_open]
  dsimp only [Fi.Fil.kind, Fi.Fil.typ, Fi.Fil.val, Fi.Fil.subs, Fi.Fil.kids]
  generalize Ms.takeI (l.drop a) bad 135 = y at c2 ⊢
  have d2 : ∀ g, CallsC Tryz.prog 47 [Is (pAt g 0), okI .u8 135] [RX25 g l a bad] (fun _ => TBytes y.1) (fun _ => [RX25 g l a1 y.2.2]) := c2
  have v0 := Ms.peek_v (n := 160) (by decide) h0
  have v1 := Ms.peek_v (n := 161) (by decide) h1
  have v2 := Ms.peek_v (n := 162) (by decide) h2
  have v3 := Ms.peek_v (n := 163) (by decide) h3
  have v4 := Ms.peek_v (n := 164) (by decide) h4
  have v5 := Ms.peek_v (n := 165) (by decide) h5
  have v6 := Ms.peek_v (n := 166) (by decide) h6
  have v8 := Ms.peek_v (n := 168) (by decide) h8
  clear c2 k2 ht
  generalize (t.toNat : Int) = p at c1 v0 v1 v2 v3 v4 v5 v6 v8
  refine CallsC.of Tryz.call122 Tryz.func122 rfl Tryz.ntmps122 rfl fun w0 G0 S0 hs ho => ?_
  exact run trivial
theorem rdFilter : ∀ n : Nat, n ≤ 16 → FiltDC n
  | 0, _ => rdFilt0
  | n + 1, hn => by
    have IH := rdFilter n (by omega)
    intro l a bad hl ha
    rw [Ms.filtD_S]
    dsimp only
    generalize ht : Ms.peekI (l.drop a) bad = t
    by_cases hk : t = 160 ∨ t = 161 ∨ t = 162
    · rw [if_pos hk]; exact rdFiltK n hn IH l a bad hl ha t ht hk
    rw [if_neg hk]
    by_cases hp : t = 163 ∨ t = 165 ∨ t = 166
    · rw [if_pos hp]; exact rdFiltP n hn l a bad hl ha t ht _ (.inl ⟨hp, rfl⟩)
    rw [if_neg hp]
    by_cases h8 : t = 168
    · rw [if_pos h8]; exact rdFiltP n hn l a bad hl ha t ht _ (.inr ⟨h8, rfl⟩)
    rw [if_neg h8]
    by_cases h4 : t = 164
    · rw [if_pos h4]; subst h4; exact rdFiltL n hn l a bad hl ha ht
    rw [if_neg h4]
    exact rdFiltB n hn l a bad hl ha t ht (fun h => hk (.inl h)) (fun h => hk (.inr (.inl h))) (fun h => hk (.inr (.inr h))) (fun h => hp (.inl h)) h4 (fun h => hp (.inr (.inl h))) (fun h => hp (.inr (.inr h))) h8
end Go.Proofs.YtgaahjmgneallaaGreat
set_option linter.unusedVariables false
set_option maxRecDepth 8000
set_option linter.unusedVariables false
namespace Go.Proofs.YtgaahjmgneallaaGreat
open Go.Vk
attribute [local irreducible] HT HX RegS RegA RegM OpP OpC AltT
attribute [local irreducible] Ber.tagB Ber.lenB Ber.intB Ber.allE Ber.fromIntB Ber.nextB Ms.midB Ms.filtD Ms.subsM Ms.textsM Ms.attrsM Ms.modsM Ms.truthI Ms.numR Ms.takeI
theorem rdPeekN (g : Nat) (l : List Ms.It) (a : Nat) (bad : Bool) (hl : Ms.wI l ≤ 100000000) (ha : a ≤ l.length) (t : UInt8) (ht : Ms.peekI (l.drop a) bad = t) : CallsC Tryz.prog 45 [Is (pAt g 0)] [RX25 g l a bad] (fun _ => okI .u8 (t.toNat : Int)) (fun _ => [RX25 g l a bad]) := by
  have c1 := rdPeek g l a bad hl ha
  rw [ht] at c1
  exact c1
theorem drop_ite {l : List Ms.It} {c : Prop} [Decidable c] {a b : Nat} : l.drop (if c then a else b) = if c then l.drop a else l.drop b := by split <;> rfl

set_option maxHeartbeats 8000000 in
theorem rdBind (l : List Ms.It) (a : Nat) (bad : Bool) (hl : Ms.wI l ≤ 100000000) (ha : a ≤ l.length) : ∃ a', a' ≤ l.length ∧ l.drop a' = (Ms.innM false 96 Ms.bindD (l.drop a) bad).2.1 ∧ ∀ g, CallsC Tryz.prog 87 [Is (pAt g 0)] [RX25 g l a bad] (fun _ => TAgg (Ms.cReq (Ms.innM false 96 Ms.bindD (l.drop a) bad).1)) (fun _ => [RX25 g l a' (Ms.innM false 96 Ms.bindD (l.drop a) bad).2.2]) := by
  obtain ⟨a1, h1, h2, c2⟩ := rdInner l a bad 96 hl ha
  refine ⟨a1, h1, h2, fun g => ?_⟩
  have hw2 := Ms.inner_w (l.drop a) bad 96
  have hw3 := Ms.wI_drop l a
  unfold Ms.innM Ms.bindD
  dsimp only [Ms.xbM]
  clear h2
  generalize Ms.takeI (l.drop a) bad 96 = y at c2 hw2 ⊢
  generalize hpb : Ms.pbM false y = pb at c2 ⊢
  generalize hx : Ms.allI y.1 = x0 at c2 hw2 ⊢
  generalize hb : Ms.badI y.1 = b0 at c2 ⊢
  have e : ∀ x b, Ms.textI x b = Ms.takeI x b 4 := fun _ _ => rfl
  try rw [e]
  have d2 : ∀ g, CallsC Tryz.prog 46 [Is (pAt g 0), okI .u8 96] [RX25 g l a bad] (fun v => Is (pAt (blk v) 0)) (fun v => [RX25 g l a1 pb, RX25 (blk v) x0 0 b0]) := c2
  clear c2
  obtain ⟨i1, k1, k2, c11⟩ := rdNum x0 0 (b0) 2 3 3 (by omega) (Nat.zero_le _)
  rw [List.drop_zero] at k2 c11
  generalize Ms.numR x0 b0 2 3 3 = p1 at c11 k2 ⊢
  have d11 : ∀ g, CallsC Tryz.prog 44 [Is (pAt g 0), okI .u8 2, okI .i64 3, okI .i64 3] [RX25 g x0 0 (b0)] (fun _ => okI .i64 p1.1) (fun _ => [RX25 g x0 i1 p1.2.2]) := c11
  clear c11
  obtain ⟨i2, k3, k4, c12⟩ := rdBody x0 i1 (p1.2.2) 4 (by omega) k1
  rw [k2] at k4 c12
  try rw [e]
  generalize Ms.takeI p1.2.1 p1.2.2 4 = p2 at c12 k4 ⊢
  have d12 : ∀ g, CallsC Tryz.prog 47 [Is (pAt g 0), okI .u8 4] [RX25 g x0 i1 (p1.2.2)] (fun _ => TBytes p2.1) (fun _ => [RX25 g x0 i2 p2.2.2]) := c12
  clear c12
  obtain ⟨i3, k5, k6, c13⟩ := rdBody x0 i2 (p2.2.2) 128 (by omega) k3
  rw [k4] at k6 c13
  try rw [e]
  generalize Ms.takeI p2.2.1 p2.2.2 128 = p3 at c13 k6 ⊢
  have d13 : ∀ g, CallsC Tryz.prog 47 [Is (pAt g 0), okI .u8 128] [RX25 g x0 i2 (p2.2.2)] (fun _ => TBytes p3.1) (fun _ => [RX25 g x0 i3 p3.2.2]) := c13
  clear c13
  have cE := fun g g2 => rdEnd g g2 l x0 a1 i3 pb p3.2.2 (by omega) k5
  rw [k6] at cE
  clear e
  dsimp only [Ms.cReq]
  refine CallsC.of Tryz.call87 Tryz.func87 rfl Tryz.ntmps87 rfl fun w0 G0 S0 hs ho => ?_
  refine run ?_
  and_intros <;> intros <;> rfl

set_option maxHeartbeats 8000000 in
theorem rdSearch (l : List Ms.It) (a : Nat) (bad : Bool) (hl : Ms.wI l ≤ 100000000) (ha : a ≤ l.length) : ∃ a', a' ≤ l.length ∧ l.drop a' = (Ms.innM false 99 Ms.srchD (l.drop a) bad).2.1 ∧ ∀ g, CallsC Tryz.prog 88 [Is (pAt g 0)] [RX25 g l a bad] (fun _ => TAgg (Ms.cReq (Ms.innM false 99 Ms.srchD (l.drop a) bad).1)) (fun _ => [RX25 g l a' (Ms.innM false 99 Ms.srchD (l.drop a) bad).2.2]) := by
  obtain ⟨a1, h1, h2, c2⟩ := rdInner l a bad 99 hl ha
  refine ⟨a1, h1, h2, fun g => ?_⟩
  have hw2 := Ms.inner_w (l.drop a) bad 99
  have hw3 := Ms.wI_drop l a
  unfold Ms.innM Ms.srchD
  dsimp only [Ms.xbM]
  clear h2
  generalize Ms.takeI (l.drop a) bad 99 = y at c2 hw2 ⊢
  generalize hpb : Ms.pbM false y = pb at c2 ⊢
  generalize hx : Ms.allI y.1 = x0 at c2 hw2 ⊢
  generalize hb : Ms.badI y.1 = b0 at c2 ⊢
  have e : ∀ x b, Ms.textI x b = Ms.takeI x b 4 := fun _ _ => rfl
  try rw [e]
  have d2 : ∀ g, CallsC Tryz.prog 46 [Is (pAt g 0), okI .u8 99] [RX25 g l a bad] (fun v => Is (pAt (blk v) 0)) (fun v => [RX25 g l a1 pb, RX25 (blk v) x0 0 b0]) := c2
  clear c2
  obtain ⟨i1, k1, k2, c11⟩ := rdBody x0 0 (b0) 4 (by omega) (Nat.zero_le _)
  rw [List.drop_zero] at k2 c11
  try rw [e]
  generalize Ms.takeI x0 b0 4 = p1 at c11 k2 ⊢
  have d11 : ∀ g, CallsC Tryz.prog 47 [Is (pAt g 0), okI .u8 4] [RX25 g x0 0 (b0)] (fun _ => TBytes p1.1) (fun _ => [RX25 g x0 i1 p1.2.2]) := c11
  clear c11
  obtain ⟨i2, k3, k4, c12⟩ := rdNum x0 i1 (p1.2.2) 10 0 2 (by omega) k1
  rw [k2] at k4 c12
  generalize Ms.numR p1.2.1 p1.2.2 10 0 2 = p2 at c12 k4 ⊢
  have d12 : ∀ g, CallsC Tryz.prog 44 [Is (pAt g 0), okI .u8 10, okI .i64 0, okI .i64 2] [RX25 g x0 i1 (p1.2.2)] (fun _ => okI .i64 p2.1) (fun _ => [RX25 g x0 i2 p2.2.2]) := c12
  clear c12
  obtain ⟨i3, k5, k6, c13⟩ := rdNum x0 i2 (p2.2.2) 10 0 3 (by omega) k3
  rw [k4] at k6 c13
  generalize Ms.numR p2.2.1 p2.2.2 10 0 3 = p3 at c13 k6 ⊢
  have d13 : ∀ g, CallsC Tryz.prog 44 [Is (pAt g 0), okI .u8 10, okI .i64 0, okI .i64 3] [RX25 g x0 i2 (p2.2.2)] (fun _ => okI .i64 p3.1) (fun _ => [RX25 g x0 i3 p3.2.2]) := c13
  clear c13
  obtain ⟨i4, k7, k8, c14⟩ := rdNum x0 i3 (p3.2.2) 2 0 Ms.mostN (by omega) k5
  rw [k6] at k8 c14
  generalize Ms.numR p3.2.1 p3.2.2 2 0 Ms.mostN = p4 at c14 k8 ⊢
  have d14 : ∀ g, CallsC Tryz.prog 44 [Is (pAt g 0), okI .u8 2, okI .i64 0, okI .i64 2147483647] [RX25 g x0 i3 (p3.2.2)] (fun _ => okI .i64 p4.1) (fun _ => [RX25 g x0 i4 p4.2.2]) := c14
  clear c14
  obtain ⟨i5, k9, k10, c15⟩ := rdNum x0 i4 (p4.2.2) 2 0 Ms.mostN (by omega) k7
  rw [k8] at k10 c15
  generalize Ms.numR p4.2.1 p4.2.2 2 0 Ms.mostN = p5 at c15 k10 ⊢
  have d15 : ∀ g, CallsC Tryz.prog 44 [Is (pAt g 0), okI .u8 2, okI .i64 0, okI .i64 2147483647] [RX25 g x0 i4 (p4.2.2)] (fun _ => okI .i64 p5.1) (fun _ => [RX25 g x0 i5 p5.2.2]) := c15
  clear c15
  obtain ⟨i6, k11, k12, c16⟩ := rdFlag x0 i5 (p5.2.2)  (by omega) k9
  rw [k10] at k12 c16
  generalize Ms.truthI p5.2.1 p5.2.2 = p6 at c16 k12 ⊢
  have d16 : ∀ g, CallsC Tryz.prog 121 [Is (pAt g 0)] [RX25 g x0 i5 (p5.2.2)] (fun _ => Is (.bool p6.1)) (fun _ => [RX25 g x0 i6 p6.2.2]) := c16
  clear c16
  obtain ⟨i7, k13, k14, c17⟩ := rdFilter 16 (by decide) x0 i6 (p6.2.2) (by omega) k11
  rw [k12] at k14 c17
  generalize Ms.filtD 16 p6.2.1 p6.2.2 = p7 at c17 k14 ⊢
  have d17 : ∀ g, CallsC Tryz.prog 122 [Is (pAt g 0), okI .i64 1] [RX25 g x0 i6 (p6.2.2)] (fun _ => TAgg (Fi.cF p7.1)) (fun _ => [RX25 g x0 i7 p7.2.2]) := c17
  clear c17
  obtain ⟨i8, k15, k16, c18⟩ := rdTexts x0 i7 (p7.2.2) 48 (by omega) k13
  rw [k14] at k16 c18
  generalize Ms.textsM false 48 p7.2.1 p7.2.2 = p8 at c18 k16 ⊢
  have d18 : ∀ g, CallsC Tryz.prog 116 [Is (pAt g 0), okI .u8 48] [RX25 g x0 i7 (p7.2.2)] (fun _ => TSl 1 En.cS p8.1) (fun _ => [RX25 g x0 i8 p8.2.2]) := c18
  clear c18
  have cE := fun g g2 => rdEnd g g2 l x0 a1 i8 pb p8.2.2 (by omega) k15
  rw [k16] at cE
  clear e
  rw [Fi.cF_open] at d17
  have h15 := Hold.mk d15
  clear d15
  have st := Stop.mk' 6
  dsimp only [Ms.cReq]
  refine CallsC.of Tryz.call88 Tryz.func88 rfl Tryz.ntmps88 rfl fun w0 G0 S0 hs ho => ?_
  refine run ?_
  intros
  refine HTs.mk ?_
  have d15 := h15.h
  clear st d14 h15
  refine run ?_
  and_intros <;> intros <;> rfl

set_option maxHeartbeats 8000000 in
theorem rdModify (l : List Ms.It) (a : Nat) (bad : Bool) (hl : Ms.wI l ≤ 100000000) (ha : a ≤ l.length) (ht : Ms.peekI (l.drop a) bad = 102) : ∃ a', a' ≤ l.length ∧ l.drop a' = (Ms.innM false 102 (Ms.modfM false) (l.drop a) bad).2.1 ∧ ∀ g, CallsC Tryz.prog 53 [Is (pAt g 0)] [RX25 g l a bad] (fun _ => TAgg (Ms.cReq (Ms.innM false 102 (Ms.modfM false) (l.drop a) bad).1)) (fun _ => [RX25 g l a' (Ms.innM false 102 (Ms.modfM false) (l.drop a) bad).2.2]) := by
  obtain ⟨a1, h1, h2, c2⟩ := rdInner l a bad 102 hl ha
  refine ⟨a1, h1, h2, fun g => ?_⟩
  have hw2 := Ms.inner_w (l.drop a) bad 102
  have hw3 := Ms.wI_drop l a
  unfold Ms.innM Ms.modfM
  dsimp only [Ms.xbM]
  clear h2
  generalize Ms.takeI (l.drop a) bad 102 = y at c2 hw2 ⊢
  generalize hpb : Ms.pbM false y = pb at c2 ⊢
  generalize hx : Ms.allI y.1 = x0 at c2 hw2 ⊢
  generalize hb : Ms.badI y.1 = b0 at c2 ⊢
  have e : ∀ x b, Ms.textI x b = Ms.takeI x b 4 := fun _ _ => rfl
  try rw [e]
  have d2 : ∀ g, CallsC Tryz.prog 46 [Is (pAt g 0), okI .u8 102] [RX25 g l a bad] (fun v => Is (pAt (blk v) 0)) (fun v => [RX25 g l a1 pb, RX25 (blk v) x0 0 b0]) := c2
  clear c2
  obtain ⟨i1, k1, k2, c11⟩ := rdBody x0 0 (b0) 4 (by omega) (Nat.zero_le _)
  rw [List.drop_zero] at k2 c11
  try rw [e]
  generalize Ms.takeI x0 b0 4 = p1 at c11 k2 ⊢
  have d11 : ∀ g, CallsC Tryz.prog 47 [Is (pAt g 0), okI .u8 4] [RX25 g x0 0 (b0)] (fun _ => TBytes p1.1) (fun _ => [RX25 g x0 i1 p1.2.2]) := c11
  clear c11
  obtain ⟨i2, k3, k4, c12⟩ := rdMods x0 i1 (p1.2.2)  (by omega) k1
  rw [k2] at k4 c12
  generalize Ms.modsM false p1.2.1 p1.2.2 = p2 at c12 k4 ⊢
  have d12 : ∀ g, CallsC Tryz.prog 89 [Is (pAt g 0)] [RX25 g x0 i1 (p1.2.2)] (fun _ => TSl 3 Ms.cMod p2.1) (fun _ => [RX25 g x0 i2 p2.2.2]) := c12
  clear c12
  have cE := fun g g2 => rdEnd g g2 l x0 a1 i2 pb p2.2.2 (by omega) k3
  rw [k4] at cE
  clear e
  have cP : CallsC Tryz.prog 45 [Is (pAt g 0)] [RX25 g l a bad] (fun _ => okI .u8 102) (fun _ => [RX25 g l a bad]) := rdPeekN g l a bad hl ha 102 ht
  clear ht
  dsimp only [Ms.cReq]
  refine CallsC.of Tryz.call53 Tryz.func53 rfl Tryz.ntmps53 rfl fun w0 G0 S0 hs ho => ?_
  refine run ?_
  and_intros <;> intros <;> rfl

set_option maxHeartbeats 8000000 in
theorem rdAdd (l : List Ms.It) (a : Nat) (bad : Bool) (hl : Ms.wI l ≤ 100000000) (ha : a ≤ l.length) (ht : Ms.peekI (l.drop a) bad = 104) : ∃ a', a' ≤ l.length ∧ l.drop a' = (Ms.innM false 104 (Ms.addM false) (l.drop a) bad).2.1 ∧ ∀ g, CallsC Tryz.prog 53 [Is (pAt g 0)] [RX25 g l a bad] (fun _ => TAgg (Ms.cReq (Ms.innM false 104 (Ms.addM false) (l.drop a) bad).1)) (fun _ => [RX25 g l a' (Ms.innM false 104 (Ms.addM false) (l.drop a) bad).2.2]) := by
  obtain ⟨a1, h1, h2, c2⟩ := rdInner l a bad 104 hl ha
  refine ⟨a1, h1, h2, fun g => ?_⟩
  have hw2 := Ms.inner_w (l.drop a) bad 104
  have hw3 := Ms.wI_drop l a
  unfold Ms.innM Ms.addM
  dsimp only [Ms.xbM]
  clear h2
  generalize Ms.takeI (l.drop a) bad 104 = y at c2 hw2 ⊢
  generalize hpb : Ms.pbM false y = pb at c2 ⊢
  generalize hx : Ms.allI y.1 = x0 at c2 hw2 ⊢
  generalize hb : Ms.badI y.1 = b0 at c2 ⊢
  have e : ∀ x b, Ms.textI x b = Ms.takeI x b 4 := fun _ _ => rfl
  try rw [e]
  have d2 : ∀ g, CallsC Tryz.prog 46 [Is (pAt g 0), okI .u8 104] [RX25 g l a bad] (fun v => Is (pAt (blk v) 0)) (fun v => [RX25 g l a1 pb, RX25 (blk v) x0 0 b0]) := c2
  clear c2
  obtain ⟨i1, k1, k2, c11⟩ := rdBody x0 0 (b0) 4 (by omega) (Nat.zero_le _)
  rw [List.drop_zero] at k2 c11
  try rw [e]
  generalize Ms.takeI x0 b0 4 = p1 at c11 k2 ⊢
  have d11 : ∀ g, CallsC Tryz.prog 47 [Is (pAt g 0), okI .u8 4] [RX25 g x0 0 (b0)] (fun _ => TBytes p1.1) (fun _ => [RX25 g x0 i1 p1.2.2]) := c11
  clear c11
  obtain ⟨i2, k3, k4, c12⟩ := rdAttrs x0 i1 (p1.2.2)  (by omega) k1
  rw [k2] at k4 c12
  generalize Ms.attrsM false p1.2.1 p1.2.2 = p2 at c12 k4 ⊢
  have d12 : ∀ g, CallsC Tryz.prog 48 [Is (pAt g 0)] [RX25 g x0 i1 (p1.2.2)] (fun _ => TSl 2 En.cAttr p2.1) (fun _ => [RX25 g x0 i2 p2.2.2]) := c12
  clear c12
  have cE := fun g g2 => rdEnd g g2 l x0 a1 i2 pb p2.2.2 (by omega) k3
  rw [k4] at cE
  clear e
  have cP : CallsC Tryz.prog 45 [Is (pAt g 0)] [RX25 g l a bad] (fun _ => okI .u8 104) (fun _ => [RX25 g l a bad]) := rdPeekN g l a bad hl ha 104 ht
  clear ht
  dsimp only [Ms.cReq]
  refine CallsC.of Tryz.call53 Tryz.func53 rfl Tryz.ntmps53 rfl fun w0 G0 S0 hs ho => ?_
  refine run ?_
  and_intros <;> intros <;> rfl

set_option maxHeartbeats 8000000 in
theorem rdRename (l : List Ms.It) (a : Nat) (bad : Bool) (hl : Ms.wI l ≤ 100000000) (ha : a ≤ l.length) : ∃ a', a' ≤ l.length ∧ l.drop a' = (Ms.innM false 108 Ms.renI (l.drop a) bad).2.1 ∧ ∀ g, CallsC Tryz.prog 90 [Is (pAt g 0)] [RX25 g l a bad] (fun _ => TAgg (Ms.cReq (Ms.innM false 108 Ms.renI (l.drop a) bad).1)) (fun _ => [RX25 g l a' (Ms.innM false 108 Ms.renI (l.drop a) bad).2.2]) := by
  obtain ⟨a1, h1, h2, c2⟩ := rdInner l a bad 108 hl ha
  refine ⟨a1, h1, h2, fun g => ?_⟩
  have hw2 := Ms.inner_w (l.drop a) bad 108
  have hw3 := Ms.wI_drop l a
  unfold Ms.innM Ms.renI
  dsimp only [Ms.xbM]
  clear h2
  generalize Ms.takeI (l.drop a) bad 108 = y at c2 hw2 ⊢
  generalize hpb : Ms.pbM false y = pb at c2 ⊢
  generalize hx : Ms.allI y.1 = x0 at c2 hw2 ⊢
  generalize hb : Ms.badI y.1 = b0 at c2 ⊢
  have e : ∀ x b, Ms.textI x b = Ms.takeI x b 4 := fun _ _ => rfl
  try rw [e]
  have d2 : ∀ g, CallsC Tryz.prog 46 [Is (pAt g 0), okI .u8 108] [RX25 g l a bad] (fun v => Is (pAt (blk v) 0)) (fun v => [RX25 g l a1 pb, RX25 (blk v) x0 0 b0]) := c2
  clear c2
  obtain ⟨i1, k1, k2, c11⟩ := rdBody x0 0 (b0) 4 (by omega) (Nat.zero_le _)
  rw [List.drop_zero] at k2 c11
  try rw [e]
  generalize Ms.takeI x0 b0 4 = p1 at c11 k2 ⊢
  have d11 : ∀ g, CallsC Tryz.prog 47 [Is (pAt g 0), okI .u8 4] [RX25 g x0 0 (b0)] (fun _ => TBytes p1.1) (fun _ => [RX25 g x0 i1 p1.2.2]) := c11
  clear c11
  obtain ⟨i2, k3, k4, c12⟩ := rdBody x0 i1 (p1.2.2) 4 (by omega) k1
  rw [k2] at k4 c12
  try rw [e]
  generalize Ms.takeI p1.2.1 p1.2.2 4 = p2 at c12 k4 ⊢
  have d12 : ∀ g, CallsC Tryz.prog 47 [Is (pAt g 0), okI .u8 4] [RX25 g x0 i1 (p1.2.2)] (fun _ => TBytes p2.1) (fun _ => [RX25 g x0 i2 p2.2.2]) := c12
  clear c12
  obtain ⟨i3, k5, k6, c13⟩ := rdFlag x0 i2 (p2.2.2)  (by omega) k3
  rw [k4] at k6 c13
  generalize Ms.truthI p2.2.1 p2.2.2 = p3 at c13 k6 ⊢
  have d13 : ∀ g, CallsC Tryz.prog 121 [Is (pAt g 0)] [RX25 g x0 i2 (p2.2.2)] (fun _ => Is (.bool p3.1)) (fun _ => [RX25 g x0 i3 p3.2.2]) := c13
  clear c13
  clear e
  have h12 := Hold.mk d12
  clear d12
  unfold Ms.mayI
  have st := Stop.mk' 3
  have cP := fun g => rdPeek g x0 i3 p3.2.2 (by omega) k5
  rw [k6] at cP
  dsimp only [Ms.cReq]
  cases hi : Ms.isI p3.2.1 p3.2.2 128 with
  | true =>
    rw [if_pos rfl]
    obtain ⟨i4, k7, k8, c14⟩ := rdBody x0 i3 p3.2.2 128 (by omega) k5
    rw [k6] at k8 c14
    have f2 := Ms.peek_is hi
    rw [f2] at cP
    generalize Ms.takeI p3.2.1 p3.2.2 128 = p4 at c14 k8 ⊢
    have d14 : ∀ g, CallsC Tryz.prog 47 [Is (pAt g 0), okI .u8 128] [RX25 g x0 i3 p3.2.2] (fun _ => TBytes p4.1) (fun _ => [RX25 g x0 i4 p4.2.2]) := c14
    have dP : ∀ g, CallsC Tryz.prog 45 [Is (pAt g 0)] [RX25 g x0 i3 p3.2.2] (fun _ => okI .u8 128) (fun _ => [RX25 g x0 i3 p3.2.2]) := cP
    have cE := fun g g2 => rdEnd g g2 l x0 a1 i4 pb p4.2.2 (by omega) k7
    rw [k8] at cE
    clear c14 cP hi f2
    refine CallsC.of Tryz.call90 Tryz.func90 rfl Tryz.ntmps90 rfl fun w0 G0 S0 hs ho => ?_
    refine run ?_
    intros
    refine HTs.mk ?_
    have d12 := h12.h
    clear st d11 h12
    refine run ?_
    and_intros <;> intros <;> rfl
  | false =>
    rw [if_neg Bool.false_ne_true]
    have f2 : ¬ ((Ms.peekI p3.2.1 p3.2.2).toNat : Int) = 128 := Ms.peek_not (t := 128) (by decide) hi
    generalize ((Ms.peekI p3.2.1 p3.2.2).toNat : Int) = pk at cP f2
    have cE := fun g g2 => rdEnd g g2 l x0 a1 i3 pb p3.2.2 (by omega) k5
    rw [k6] at cE
    clear hi
    refine CallsC.of Tryz.call90 Tryz.func90 rfl Tryz.ntmps90 rfl fun w0 G0 S0 hs ho => ?_
    refine run ?_
    intros
    refine HTs.mk ?_
    have d12 := h12.h
    clear st d11 h12
    refine run ?_
    and_intros <;> intros <;> rfl

set_option maxHeartbeats 8000000 in
theorem rdCompare (l : List Ms.It) (a : Nat) (bad : Bool) (hl : Ms.wI l ≤ 100000000) (ha : a ≤ l.length) : ∃ a', a' ≤ l.length ∧ l.drop a' = (Ms.innM false 110 (Ms.cmpM false) (l.drop a) bad).2.1 ∧ ∀ g, CallsC Tryz.prog 91 [Is (pAt g 0)] [RX25 g l a bad] (fun _ => TAgg (Ms.cReq (Ms.innM false 110 (Ms.cmpM false) (l.drop a) bad).1)) (fun _ => [RX25 g l a' (Ms.innM false 110 (Ms.cmpM false) (l.drop a) bad).2.2]) := by
  obtain ⟨a1, h1, h2, c2⟩ := rdInner l a bad 110 hl ha
  refine ⟨a1, h1, h2, fun g => ?_⟩
  have hw2 := Ms.inner_w (l.drop a) bad 110
  have hw3 := Ms.wI_drop l a
  unfold Ms.innM Ms.cmpM
  dsimp only [Ms.xbM]
  clear h2
  generalize Ms.takeI (l.drop a) bad 110 = y at c2 hw2 ⊢
  generalize hpb : Ms.pbM false y = pb at c2 ⊢
  generalize hx : Ms.allI y.1 = x0 at c2 hw2 ⊢
  generalize hb : Ms.badI y.1 = b0 at c2 ⊢
  have e : ∀ x b, Ms.textI x b = Ms.takeI x b 4 := fun _ _ => rfl
  try rw [e]
  have d2 : ∀ g, CallsC Tryz.prog 46 [Is (pAt g 0), okI .u8 110] [RX25 g l a bad] (fun v => Is (pAt (blk v) 0)) (fun v => [RX25 g l a1 pb, RX25 (blk v) x0 0 b0]) := c2
  clear c2
  obtain ⟨i1, k1, k2, c11⟩ := rdBody x0 0 (b0) 4 (by omega) (Nat.zero_le _)
  rw [List.drop_zero] at k2 c11
  try rw [e]
  generalize Ms.takeI x0 b0 4 = p1 at c11 k2 ⊢
  have d11 : ∀ g, CallsC Tryz.prog 47 [Is (pAt g 0), okI .u8 4] [RX25 g x0 0 (b0)] (fun _ => TBytes p1.1) (fun _ => [RX25 g x0 i1 p1.2.2]) := c11
  clear c11
  clear e
  unfold Ms.innM Ms.pairK
  dsimp only [Ms.xbM]
  have e : ∀ x b, Ms.textI x b = Ms.takeI x b 4 := fun _ _ => rfl
  rw [e, e]
  obtain ⟨j1, m1, m2, c12⟩ := rdInner x0 i1 p1.2.2 48 (by omega) k1
  have hw4 := Ms.inner_w (x0.drop i1) p1.2.2 48
  have hw5 := Ms.wI_drop x0 i1
  rw [k2] at m2 c12 hw4 hw5
  generalize Ms.takeI p1.2.1 p1.2.2 48 = y2 at c12 m2 hw4 ⊢
  generalize hpb2 : Ms.pbM false y2 = pb2 at c12 ⊢
  generalize hx2 : Ms.allI y2.1 = x2 at c12 hw4 ⊢
  generalize hb2 : Ms.badI y2.1 = b2 at c12 ⊢
  have d12 : ∀ g, CallsC Tryz.prog 46 [Is (pAt g 0), okI .u8 48] [RX25 g x0 i1 p1.2.2] (fun v => Is (pAt (blk v) 0)) (fun v => [RX25 g x0 j1 pb2, RX25 (blk v) x2 0 b2]) := c12
  obtain ⟨j2, m3, m4, c13⟩ := rdBody x2 0 b2 4 (by omega) (Nat.zero_le _)
  rw [List.drop_zero] at m4 c13
  generalize Ms.takeI x2 b2 4 = p at c13 m4 ⊢
  obtain ⟨j3, m5, m6, c14⟩ := rdBody x2 j2 p.2.2 4 (by omega) m3
  rw [m4] at m6 c14
  generalize Ms.takeI p.2.1 p.2.2 4 = q at c14 m6 ⊢
  have cE := fun g g2 => rdEnd g g2 x0 x2 j1 j3 pb2 q.2.2 (by omega) m5
  rw [m6] at cE
  have cF := fun g g2 => rdEnd g g2 l x0 a1 j1 pb (Ms.endI pb2 q.2.2 q.2.1) (by omega) m1
  rw [m2] at cF
  have h13 := Hold.mk (show ∀ g, CallsC Tryz.prog 47 [Is (pAt g 0), okI .u8 4] [RX25 g x2 0 b2] (fun _ => TBytes p.1) (fun _ => [RX25 g x2 j2 p.2.2]) from c13)
  have h14 := Hold.mk (show ∀ g, CallsC Tryz.prog 47 [Is (pAt g 0), okI .u8 4] [RX25 g x2 j2 p.2.2] (fun _ => TBytes q.1) (fun _ => [RX25 g x2 j3 q.2.2]) from c14)
  have hF := Hold.mk cF
  have h12 := Hold.mk d12
  clear c12 c13 c14 cF e d12
  have st := Stop.mk' 3
  dsimp only [Ms.cReq]
  refine CallsC.of Tryz.call91 Tryz.func91 rfl Tryz.ntmps91 rfl fun w0 G0 S0 hs ho => ?_
  refine run ?_
  intros
  refine HTs.mk ?_
  have d12 := h12.h
  clear st d2 h12
  have st := Stop.mk' 4
  refine run ?_
  intros
  refine HTs.mk ?_
  have d13 := h13.h
  clear st d11 h13
  have st := Stop.mk' 5
  refine run ?_
  intros
  refine HTs.mk ?_
  have d14 := h14.h
  clear st d13 h14
  have st := Stop.mk' 7
  refine run ?_
  intros
  refine HTs.mk ?_
  have cF := hF.h
  clear st cE hF
  refine run ?_
  and_intros <;> intros <;> rfl
end Go.Proofs.YtgaahjmgneallaaGreat
set_option linter.unusedVariables false
set_option maxRecDepth 8000
set_option linter.unusedVariables false
namespace Go.Proofs.YtgaahjmgneallaaGreat
open Go.Vk
attribute [local irreducible] HT HX RegS RegA RegM OpP OpC AltT
attribute [local irreducible] Ber.tagB Ber.lenB Ber.intB Ber.allE Ber.fromIntB Ber.nextB Ms.midB Ms.filtD Ms.subsM Ms.innM Ms.takeI Ms.numR
set_option maxHeartbeats 4000000 in
theorem rdOpBind (l : List Ms.It) (a : Nat) (bad : Bool) (hl : Ms.wI l ≤ 100000000) (ha : a ≤ l.length) (ht : Ms.peekI (l.drop a) bad = 96) : ∃ a', a' ≤ l.length ∧ l.drop a' = (Ms.innM false 96 Ms.bindD (l.drop a) bad).2.1 ∧ ∀ g, CallsC Tryz.prog 53 [Is (pAt g 0)] [RX25 g l a bad] (fun _ => TAgg (Ms.cReq (Ms.innM false 96 Ms.bindD (l.drop a) bad).1)) (fun _ => [RX25 g l a' (Ms.innM false 96 Ms.bindD (l.drop a) bad).2.2]) := by
  obtain ⟨a1, k1, k2, c⟩ := rdBind l a bad hl ha
  refine ⟨a1, k1, k2, fun g => ?_⟩
  have cP : CallsC Tryz.prog 45 [Is (pAt g 0)] [RX25 g l a bad] (fun _ => okI .u8 96) (fun _ => [RX25 g l a bad]) := rdPeekN g l a bad hl ha 96 ht
  clear ht k2
  generalize Ms.innM false 96 Ms.bindD (l.drop a) bad = z at c ⊢
  refine CallsC.of Tryz.call53 Tryz.func53 rfl Tryz.ntmps53 rfl fun w0 G0 S0 hs ho => ?_
  exact run trivial
set_option maxHeartbeats 4000000 in
theorem rdOpSearch (l : List Ms.It) (a : Nat) (bad : Bool) (hl : Ms.wI l ≤ 100000000) (ha : a ≤ l.length) (ht : Ms.peekI (l.drop a) bad = 99) : ∃ a', a' ≤ l.length ∧ l.drop a' = (Ms.innM false 99 Ms.srchD (l.drop a) bad).2.1 ∧ ∀ g, CallsC Tryz.prog 53 [Is (pAt g 0)] [RX25 g l a bad] (fun _ => TAgg (Ms.cReq (Ms.innM false 99 Ms.srchD (l.drop a) bad).1)) (fun _ => [RX25 g l a' (Ms.innM false 99 Ms.srchD (l.drop a) bad).2.2]) := by
  obtain ⟨a1, k1, k2, c⟩ := rdSearch l a bad hl ha
  refine ⟨a1, k1, k2, fun g => ?_⟩
  have cP : CallsC Tryz.prog 45 [Is (pAt g 0)] [RX25 g l a bad] (fun _ => okI .u8 99) (fun _ => [RX25 g l a bad]) := rdPeekN g l a bad hl ha 99 ht
  clear ht k2
  generalize Ms.innM false 99 Ms.srchD (l.drop a) bad = z at c ⊢
  refine CallsC.of Tryz.call53 Tryz.func53 rfl Tryz.ntmps53 rfl fun w0 G0 S0 hs ho => ?_
  exact run trivial
set_option maxHeartbeats 4000000 in
theorem rdOpRename (l : List Ms.It) (a : Nat) (bad : Bool) (hl : Ms.wI l ≤ 100000000) (ha : a ≤ l.length) (ht : Ms.peekI (l.drop a) bad = 108) : ∃ a', a' ≤ l.length ∧ l.drop a' = (Ms.innM false 108 Ms.renI (l.drop a) bad).2.1 ∧ ∀ g, CallsC Tryz.prog 53 [Is (pAt g 0)] [RX25 g l a bad] (fun _ => TAgg (Ms.cReq (Ms.innM false 108 Ms.renI (l.drop a) bad).1)) (fun _ => [RX25 g l a' (Ms.innM false 108 Ms.renI (l.drop a) bad).2.2]) := by
  obtain ⟨a1, k1, k2, c⟩ := rdRename l a bad hl ha
  refine ⟨a1, k1, k2, fun g => ?_⟩
  have cP : CallsC Tryz.prog 45 [Is (pAt g 0)] [RX25 g l a bad] (fun _ => okI .u8 108) (fun _ => [RX25 g l a bad]) := rdPeekN g l a bad hl ha 108 ht
  clear ht k2
  generalize Ms.innM false 108 Ms.renI (l.drop a) bad = z at c ⊢
  refine CallsC.of Tryz.call53 Tryz.func53 rfl Tryz.ntmps53 rfl fun w0 G0 S0 hs ho => ?_
  exact run trivial
set_option maxHeartbeats 4000000 in
theorem rdOpCompare (l : List Ms.It) (a : Nat) (bad : Bool) (hl : Ms.wI l ≤ 100000000) (ha : a ≤ l.length) (ht : Ms.peekI (l.drop a) bad = 110) : ∃ a', a' ≤ l.length ∧ l.drop a' = (Ms.innM false 110 (Ms.cmpM false) (l.drop a) bad).2.1 ∧ ∀ g, CallsC Tryz.prog 53 [Is (pAt g 0)] [RX25 g l a bad] (fun _ => TAgg (Ms.cReq (Ms.innM false 110 (Ms.cmpM false) (l.drop a) bad).1)) (fun _ => [RX25 g l a' (Ms.innM false 110 (Ms.cmpM false) (l.drop a) bad).2.2]) := by
  obtain ⟨a1, k1, k2, c⟩ := rdCompare l a bad hl ha
  refine ⟨a1, k1, k2, fun g => ?_⟩
  have cP : CallsC Tryz.prog 45 [Is (pAt g 0)] [RX25 g l a bad] (fun _ => okI .u8 110) (fun _ => [RX25 g l a bad]) := rdPeekN g l a bad hl ha 110 ht
  clear ht k2
  generalize Ms.innM false 110 (Ms.cmpM false) (l.drop a) bad = z at c ⊢
  refine CallsC.of Tryz.call53 Tryz.func53 rfl Tryz.ntmps53 rfl fun w0 G0 S0 hs ho => ?_
  exact run trivial
set_option maxHeartbeats 4000000 in
theorem rdOpUnbind (l : List Ms.It) (a : Nat) (bad : Bool) (hl : Ms.wI l ≤ 100000000) (ha : a ≤ l.length) (ht : Ms.peekI (l.drop a) bad = 66) : ∃ a', a' ≤ l.length ∧ l.drop a' = ((({ Ms.zR with kind := 2 } : Ms.Req), (Ms.takeI (l.drop a) bad 66).2.1, (Ms.takeI (l.drop a) bad 66).2.2 || decide (0 < (Ms.takeI (l.drop a) bad 66).1.length))).2.1 ∧ ∀ g, CallsC Tryz.prog 53 [Is (pAt g 0)] [RX25 g l a bad] (fun _ => TAgg (Ms.cReq ((({ Ms.zR with kind := 2 } : Ms.Req), (Ms.takeI (l.drop a) bad 66).2.1, (Ms.takeI (l.drop a) bad 66).2.2 || decide (0 < (Ms.takeI (l.drop a) bad 66).1.length))).1)) (fun _ => [RX25 g l a' ((({ Ms.zR with kind := 2 } : Ms.Req), (Ms.takeI (l.drop a) bad 66).2.1, (Ms.takeI (l.drop a) bad 66).2.2 || decide (0 < (Ms.takeI (l.drop a) bad 66).1.length))).2.2]) := by
  obtain ⟨a1, k1, k2, c⟩ := rdBody l a bad 66 hl ha
  refine ⟨a1, k1, k2, fun g => ?_⟩
  have hw := Ms.take_b (l.drop a) bad 66
  have hw2 := Ms.wI_drop l a
  have cP : CallsC Tryz.prog 45 [Is (pAt g 0)] [RX25 g l a bad] (fun _ => okI .u8 66) (fun _ => [RX25 g l a bad]) := rdPeekN g l a bad hl ha 66 ht
  clear ht k2
  generalize Ms.takeI (l.drop a) bad 66 = z at c hw ⊢
  have d : ∀ g, CallsC Tryz.prog 47 [Is (pAt g 0), okI .u8 66] [RX25 g l a bad] (fun _ => TBytes z.1) (fun _ => [RX25 g l a1 z.2.2]) := c
  clear c
  dsimp only [Ms.cReq]
  cases hz : decide (0 < z.1.length) with
  | true =>
    have hz := of_decide_eq_true hz
    rw [Bool.or_true]
    refine CallsC.of Tryz.call53 Tryz.func53 rfl Tryz.ntmps53 rfl fun w0 G0 S0 hs ho => ?_
    refine run ?_
    and_intros <;> intros <;> first | rfl | (exfalso; omega)
  | false =>
    have hz := of_decide_eq_false hz
    rw [Bool.or_false]
    refine CallsC.of Tryz.call53 Tryz.func53 rfl Tryz.ntmps53 rfl fun w0 G0 S0 hs ho => ?_
    refine run ?_
    and_intros <;> intros <;> first | rfl | (exfalso; omega)
set_option maxHeartbeats 4000000 in
theorem rdOpDelete (l : List Ms.It) (a : Nat) (bad : Bool) (hl : Ms.wI l ≤ 100000000) (ha : a ≤ l.length) (ht : Ms.peekI (l.drop a) bad = 74) : ∃ a', a' ≤ l.length ∧ l.drop a' = ((({ Ms.zR with kind := 10, dn := (Ms.takeI (l.drop a) bad 74).1 } : Ms.Req), (Ms.takeI (l.drop a) bad 74).2)).2.1 ∧ ∀ g, CallsC Tryz.prog 53 [Is (pAt g 0)] [RX25 g l a bad] (fun _ => TAgg (Ms.cReq ((({ Ms.zR with kind := 10, dn := (Ms.takeI (l.drop a) bad 74).1 } : Ms.Req), (Ms.takeI (l.drop a) bad 74).2)).1)) (fun _ => [RX25 g l a' ((({ Ms.zR with kind := 10, dn := (Ms.takeI (l.drop a) bad 74).1 } : Ms.Req), (Ms.takeI (l.drop a) bad 74).2)).2.2]) := by
  obtain ⟨a1, k1, k2, c⟩ := rdBody l a bad 74 hl ha
  refine ⟨a1, k1, k2, fun g => ?_⟩
  have cP : CallsC Tryz.prog 45 [Is (pAt g 0)] [RX25 g l a bad] (fun _ => okI .u8 74) (fun _ => [RX25 g l a bad]) := rdPeekN g l a bad hl ha 74 ht
  clear ht k2
  generalize Ms.takeI (l.drop a) bad 74 = z at c ⊢
  have d : ∀ g, CallsC Tryz.prog 47 [Is (pAt g 0), okI .u8 74] [RX25 g l a bad] (fun _ => TBytes z.1) (fun _ => [RX25 g l a1 z.2.2]) := c
  clear c
  dsimp only [Ms.cReq]
  refine CallsC.of Tryz.call53 Tryz.func53 rfl Tryz.ntmps53 rfl fun w0 G0 S0 hs ho => ?_
  refine run ?_
  and_intros <;> intros <;> rfl
set_option maxHeartbeats 4000000 in
theorem rdOpAbandon (l : List Ms.It) (a : Nat) (bad : Bool) (hl : Ms.wI l ≤ 100000000) (ha : a ≤ l.length) (t : UInt8) (ht : Ms.peekI (l.drop a) bad = t) (h96 : t ≠ 96) (h66 : t ≠ 66) (h99 : t ≠ 99) (h102 : t ≠ 102) (h104 : t ≠ 104) (h74 : t ≠ 74) (h108 : t ≠ 108) (h110 : t ≠ 110) : ∃ a', a' ≤ l.length ∧ l.drop a' = ((({ Ms.zR with kind := 16, which := (Ms.numR (l.drop a) bad 80 0 Ms.mostN).1 } : Ms.Req), (Ms.numR (l.drop a) bad 80 0 Ms.mostN).2)).2.1 ∧ ∀ g, CallsC Tryz.prog 53 [Is (pAt g 0)] [RX25 g l a bad] (fun _ => TAgg (Ms.cReq ((({ Ms.zR with kind := 16, which := (Ms.numR (l.drop a) bad 80 0 Ms.mostN).1 } : Ms.Req), (Ms.numR (l.drop a) bad 80 0 Ms.mostN).2)).1)) (fun _ => [RX25 g l a' ((({ Ms.zR with kind := 16, which := (Ms.numR (l.drop a) bad 80 0 Ms.mostN).1 } : Ms.Req), (Ms.numR (l.drop a) bad 80 0 Ms.mostN).2)).2.2]) := by
  obtain ⟨a1, k1, k2, c⟩ := rdNum l a bad 80 0 Ms.mostN hl ha
  refine ⟨a1, k1, k2, fun g => ?_⟩
  have cP := rdPeekN g l a bad hl ha t ht
  clear ht k2
  have v96 := Ms.peek_v (n := 96) (by decide) h96
  have v66 := Ms.peek_v (n := 66) (by decide) h66
  have v99 := Ms.peek_v (n := 99) (by decide) h99
  have v102 := Ms.peek_v (n := 102) (by decide) h102
  have v104 := Ms.peek_v (n := 104) (by decide) h104
  have v74 := Ms.peek_v (n := 74) (by decide) h74
  have v108 := Ms.peek_v (n := 108) (by decide) h108
  have v110 := Ms.peek_v (n := 110) (by decide) h110
  clear h96 h66 h99 h102 h104 h74 h108 h110
  generalize (t.toNat : Int) = p at cP v96 v66 v99 v102 v104 v74 v108 v110
  generalize Ms.numR (l.drop a) bad 80 0 Ms.mostN = z at c ⊢
  have d : ∀ g, CallsC Tryz.prog 44 [Is (pAt g 0), okI .u8 80, okI .i64 0, okI .i64 2147483647] [RX25 g l a bad] (fun _ => okI .i64 z.1) (fun _ => [RX25 g l a1 z.2.2]) := c
  clear c
  dsimp only [Ms.cReq]
  refine CallsC.of Tryz.call53 Tryz.func53 rfl Tryz.ntmps53 rfl fun w0 G0 S0 hs ho => ?_
  refine run ?_
  and_intros <;> intros <;> rfl
theorem rdOp (l : List Ms.It) (a : Nat) (bad : Bool) (hl : Ms.wI l ≤ 100000000) (ha : a ≤ l.length) : ∃ a', a' ≤ l.length ∧ l.drop a' = (Ms.opD (l.drop a) bad).2.1 ∧ ∀ g, CallsC Tryz.prog 53 [Is (pAt g 0)] [RX25 g l a bad] (fun _ => TAgg (Ms.cReq (Ms.opD (l.drop a) bad).1)) (fun _ => [RX25 g l a' (Ms.opD (l.drop a) bad).2.2]) := by
  unfold Ms.opD
  dsimp only
  generalize ht : Ms.peekI (l.drop a) bad = t
  by_cases h96 : t = 96
  · rw [if_pos h96]; subst h96; exact rdOpBind l a bad hl ha ht
  rw [if_neg h96]
  by_cases h66 : t = 66
  · rw [if_pos h66]; subst h66; exact rdOpUnbind l a bad hl ha ht
  rw [if_neg h66]
  by_cases h99 : t = 99
  · rw [if_pos h99]; subst h99; exact rdOpSearch l a bad hl ha ht
  rw [if_neg h99]
  by_cases h102 : t = 102
  · rw [if_pos h102]; subst h102; exact rdModify l a bad hl ha ht
  rw [if_neg h102]
  by_cases h104 : t = 104
  · rw [if_pos h104]; subst h104; exact rdAdd l a bad hl ha ht
  rw [if_neg h104]
  by_cases h74 : t = 74
  · rw [if_pos h74]; subst h74; exact rdOpDelete l a bad hl ha ht
  rw [if_neg h74]
  by_cases h108 : t = 108
  · rw [if_pos h108]; subst h108; exact rdOpRename l a bad hl ha ht
  rw [if_neg h108]
  by_cases h110 : t = 110
  · rw [if_pos h110]; subst h110; exact rdOpCompare l a bad hl ha ht
  rw [if_neg h110]
  exact rdOpAbandon l a bad hl ha t ht h96 h66 h99 h102 h104 h74 h108 h110
end Go.Proofs.YtgaahjmgneallaaGreat
