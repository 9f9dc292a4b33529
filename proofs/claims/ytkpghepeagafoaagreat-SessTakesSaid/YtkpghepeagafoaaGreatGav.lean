/-
  The contracts of the document's readers: read, peek, body, num, flag, inner, end.
  The contracts of the document's readers: texts, attr.
  The contracts of the document's readers: subs, pair.
  The contract of the document's reader of filters.
  The contract of the document's reader of filters: of one kind, of any kind.
-/
import Derived.Test.YtkpghepeagafoaaGreatGau
import Derived.Test.YtkpghepeagafoaaGreatGaq
set_option linter.unusedSimpArgs false
set_option linter.unusedVariables false
set_option linter.unusedVariables false
namespace Go.Ms
open Go.Vk
theorem drop_at {l : List It} {a : Nat} {x : It} {r : List It} (h : l.drop a = x :: r) : a < l.length ∧ l.getD a default = x ∧ l.drop (a + 1) = r := by
  have h1 : a < l.length := by
    rcases Nat.lt_or_ge a l.length with h1 | h1
    · exact h1
    · rw [List.drop_of_length_le h1] at h; cases h
  rw [List.drop_eq_getElem_cons h1] at h
  injection h with h2 h3
  refine ⟨h1, ?_, h3⟩
  rw [List.getD_eq_getElem?_getD, List.getElem?_eq_getElem h1]
  exact h2
theorem drop_nil {l : List It} {a : Nat} (h : l.drop a = []) : l.length ≤ a := List.drop_eq_nil_iff.1 h
theorem wI_drop (l : List It) (a : Nat) : wI (l.drop a) ≤ wI l := by
  have : wI l = wI (l.take a) + wI (l.drop a) := by rw [← wI_app, List.take_append_drop]
  omega
theorem peek_no {l : List It} {a : Nat} {bad : Bool} (h : bad = true ∨ l.length ≤ a) : peekI (l.drop a) bad = 0 := by
  rcases h with rfl | h
  · exact peek_true _
  · rw [List.drop_of_length_le h]; rfl
theorem peek_at {l : List It} {a : Nat} (h : a < l.length) : peekI (l.drop a) false = (l.getD a default).1 := by
  rw [List.drop_eq_getElem_cons h, List.getD_eq_getElem?_getD, List.getElem?_eq_getElem h]
  rfl
theorem isI_at {l : List It} {a : Nat} (h : a < l.length) (bad : Bool) (t : UInt8) : isI (l.drop a) bad t = (!bad && decide ((l.getD a default).1 = t)) := by
  rw [List.drop_eq_getElem_cons h, List.getD_eq_getElem?_getD, List.getElem?_eq_getElem h]
  rfl
end Go.Ms
set_option maxRecDepth 8000
set_option linter.unusedVariables false
namespace Go.Proofs.YtkpghepeagafoaaGreat
open Go.Vk
attribute [local irreducible] HT HX RegS RegA RegM OpP OpC AltT
attribute [local irreducible] Ber.tagB Ber.lenB Ber.intB Ber.allE Ber.fromIntB Ber.nextB
abbrev RX25 (g : Nat) (l : List Ms.It) (a : Nat) (bad : Bool) : Res := ownP g 76 [TSl 2 Ber.cIt l, okI .i64 (a : Int), Is (.bool bad)]
theorem rdRead (b : List UInt8) (hb : b.length ≤ 134217728) : CallsC Tryz.prog 27 [TBytes b] [] (fun v => Is (pAt (blk v) 0)) (fun v => [RX25 (blk v) (Ms.allI b) 0 (Ms.badI b)]) := by
  have c1 : CFn Tryz.prog 50 [TBytes b] (TTup [TSl 2 Ber.cIt (Ms.allI b), okI .i64 (Ber.allE b.length b []).2]) := refAll b hb
  have e : Ms.badI b = decide ((Ber.allE b.length b []).2 ≠ 0) := rfl
  rw [e]
  generalize (Ber.allE b.length b []).2 = z at c1 ⊢
  have mu := Mut.mk' [14]
  refine CallsC.of Tryz.call27 Tryz.func27 rfl Tryz.ntmps27 rfl fun w0 G0 S0 hs ho => ?_
  exact run trivial
theorem rdPeek (g : Nat) (l : List Ms.It) (a : Nat) (bad : Bool) (hl : Ms.wI l ≤ 100000000) (ha : a ≤ l.length) : CallsC Tryz.prog 30 [Is (pAt g 0)] [RX25 g l a bad] (fun _ => okI .u8 ((Ms.peekI (l.drop a) bad).toNat : Int)) (fun _ => [RX25 g l a bad]) := by
  have hle := Ms.wI_len l
  refine CallsC.of Tryz.call30 Tryz.func30 rfl Tryz.ntmps30 rfl fun w0 G0 S0 hs ho => ?_
  refine run ?_
  refine ⟨fun h => ?_, fun h => ?_⟩
  · rw [Ms.peek_no (h.imp id (fun h => by omega))]; rfl
  · obtain ⟨rfl, h⟩ := h
    rw [Ms.peek_at (by omega)]
theorem rdBody (l : List Ms.It) (a : Nat) (bad : Bool) (t : UInt8) (hl : Ms.wI l ≤ 100000000) (ha : a ≤ l.length) : ∃ a', a' ≤ l.length ∧ l.drop a' = (Ms.takeI (l.drop a) bad t).2.1 ∧ ∀ g, CallsC Tryz.prog 31 [Is (pAt g 0), okI .u8 (t.toNat : Int)] [RX25 g l a bad] (fun _ => TBytes (Ms.takeI (l.drop a) bad t).1) (fun _ => [RX25 g l a' (Ms.takeI (l.drop a) bad t).2.2]) := by
  have hle := Ms.wI_len l
  cases hi : Ms.isI (l.drop a) bad t with
  | true =>
    obtain ⟨rfl, x, r, hd, hx, e⟩ := Ms.takeI_is hi
    obtain ⟨d1, d2, d3⟩ := Ms.drop_at hd
    rw [e]
    refine ⟨a + 1, by omega, d3, fun g => ?_⟩
    have f1 : (l.getD a default).1 = t := by rw [d2]; exact hx
    have f2 : ((l.getD a default).1.toNat : Int) = (t.toNat : Int) := by rw [f1]
    clear e hi hd d3
    refine CallsC.of Tryz.call31 Tryz.func31 rfl Tryz.ntmps31 rfl fun w0 G0 S0 hs ho => ?_
    refine run ?_
    intro _
    rw [show ((a : Int) + 1 - 1).toNat = a by omega, d2]
  | false =>
    rw [Ms.takeI_no hi]
    refine ⟨a, ha, rfl, fun g => ?_⟩
    have hno : a < l.length → bad = false → ¬ ((l.getD a default).1.toNat : Int) = (t.toNat : Int) := fun h1 h2 h3 => by
      rw [Ms.isI_at h1, h2, decide_eq_true (Ms.u8_i.1 h3)] at hi
      cases hi
    clear hi
    refine CallsC.of Tryz.call31 Tryz.func31 rfl Tryz.ntmps31 rfl fun w0 G0 S0 hs ho => ?_
    refine run ?_
    and_intros <;> intro h <;> exact absurd (Decidable.not_not.1 h.2) (hno (by have := h.1.2; omega) h.1.1)
theorem rdNum (l : List Ms.It) (a : Nat) (bad : Bool) (t : UInt8) (lo hi : Int) (hl : Ms.wI l ≤ 100000000) (ha : a ≤ l.length) : ∃ a', a' ≤ l.length ∧ l.drop a' = (Ms.numR (l.drop a) bad t lo hi).2.1 ∧ ∀ g, CallsC Tryz.prog 28 [Is (pAt g 0), okI .u8 (t.toNat : Int), okI .i64 lo, okI .i64 hi] [RX25 g l a bad] (fun _ => okI .i64 (Ms.numR (l.drop a) bad t lo hi).1) (fun _ => [RX25 g l a' (Ms.numR (l.drop a) bad t lo hi).2.2]) := by
  obtain ⟨a1, h1, h2, c1⟩ := rdBody l a bad t hl ha
  refine ⟨a1, h1, h2, fun g => ?_⟩
  unfold Ms.numR Ms.numI
  dsimp only
  generalize Ms.takeI (l.drop a) bad t = y at c1 ⊢
  have c2 := refFromInt y.1
  generalize Ber.fromIntB y.1 = z at c2 ⊢
  clear h2
  refine CallsC.of Tryz.call28 Tryz.func28 rfl Tryz.ntmps28 rfl fun w0 G0 S0 hs ho => ?_
  refine run ?_
  intro h
  rw [decide_eq_false h.1.1, decide_eq_false h.1.2, decide_eq_false h.2]
  simp
theorem rdFlag (l : List Ms.It) (a : Nat) (bad : Bool) (hl : Ms.wI l ≤ 100000000) (ha : a ≤ l.length) : ∃ a', a' ≤ l.length ∧ l.drop a' = (Ms.truthI (l.drop a) bad).2.1 ∧ ∀ g, CallsC Tryz.prog 81 [Is (pAt g 0)] [RX25 g l a bad] (fun _ => Is (.bool (Ms.truthI (l.drop a) bad).1)) (fun _ => [RX25 g l a' (Ms.truthI (l.drop a) bad).2.2]) := by
  obtain ⟨a1, h1, h2, c1⟩ := rdBody l a bad 1 hl ha
  refine ⟨a1, h1, h2, fun g => ?_⟩
  unfold Ms.truthI
  generalize Ms.takeI (l.drop a) bad 1 = y at c1 ⊢
  have c2 : CFn Tryz.prog 100 [TBytes y.1] (TTup [Is (.bool (Ms.fromB y.1).1), okI .i64 (Ms.fromB y.1).2]) := refFromBool _
  generalize Ms.fromB y.1 = z at c2 ⊢
  clear h2
  have c3 : ∀ g, CallsC Tryz.prog 31 [Is (pAt g 0), okI .u8 1] [RX25 g l a bad] (fun _ => TBytes y.1) (fun _ => [RX25 g l a1 y.2.2]) := c1
  clear c1
  refine CallsC.of Tryz.call81 Tryz.func81 rfl Tryz.ntmps81 rfl fun w0 G0 S0 hs ho => ?_
  refine run ?_
  intro h
  rw [decide_eq_false h]
  simp
theorem rdInner (l : List Ms.It) (a : Nat) (bad : Bool) (t : UInt8) (hl : Ms.wI l ≤ 100000000) (ha : a ≤ l.length) : ∃ a', a' ≤ l.length ∧ l.drop a' = (Ms.takeI (l.drop a) bad t).2.1 ∧ ∀ g, CallsC Tryz.prog 54 [Is (pAt g 0), okI .u8 (t.toNat : Int)] [RX25 g l a bad] (fun v => Is (pAt (blk v) 0)) (fun v => [RX25 g l a' (Ms.pbM false (Ms.takeI (l.drop a) bad t)), RX25 (blk v) (Ms.allI (Ms.takeI (l.drop a) bad t).1) 0 (Ms.badI (Ms.takeI (l.drop a) bad t).1)]) := by
  obtain ⟨a1, h1, h2, c1⟩ := rdBody l a bad t hl ha
  refine ⟨a1, h1, h2, fun g => ?_⟩
  have hw := Ms.takeI_w (l.drop a) bad t
  have hw2 := Ms.wI_drop l a
  generalize Ms.takeI (l.drop a) bad t = y at c1 hw ⊢
  have c2 := rdRead y.1 (by omega)
  unfold Ms.pbM
  dsimp only
  generalize Ms.allI y.1 = x0 at c2 ⊢
  clear h2
  cases hb : Ms.badI y.1 with
  | true =>
    rw [hb] at c2
    rw [Bool.or_true]
    refine CallsC.of Tryz.call54 Tryz.func54 rfl Tryz.ntmps54 rfl fun w0 G0 S0 hs ho => ?_
    exact run trivial
  | false =>
    rw [hb] at c2
    rw [Bool.or_false]
    refine CallsC.of Tryz.call54 Tryz.func54 rfl Tryz.ntmps54 rfl fun w0 G0 S0 hs ho => ?_
    exact run trivial
theorem rdEnd (g g2 : Nat) (l l2 : List Ms.It) (a a2 : Nat) (bad bad2 : Bool) (hl : Ms.wI l2 ≤ 100000000) (ha : a2 ≤ l2.length) : CallsC Tryz.prog 56 [Is (pAt g 0), Is (pAt g2 0)] [RX25 g l a bad, RX25 g2 l2 a2 bad2] (fun _ => TTup []) (fun _ => [RX25 g l a (Ms.endI bad bad2 (l2.drop a2)), RX25 g2 l2 a2 bad2]) := by
  have hle := Ms.wI_len l2
  have he : l2.drop a2 = [] ↔ a2 = l2.length := by rw [List.drop_eq_nil_iff]; omega
  unfold Ms.endI
  by_cases h : bad2 = true ∨ l2.drop a2 ≠ []
  · have e : (bad || bad2 || decide (l2.drop a2 ≠ [])) = true := by
      rcases h with h | h
      · rw [h]; simp
      · rw [decide_eq_true h]; simp
    rw [e]
    have h' : bad2 = true ∨ ¬ (a2 : Int) = (l2.length : Int) := h.imp id (fun h h2 => h (he.2 (by omega)))
    clear h e he
    refine CallsC.of Tryz.call56 Tryz.func56 rfl Tryz.ntmps56 rfl fun w0 G0 S0 hs ho => ?_
    refine run ?_
    intros
    exfalso
    grind
  · have hb : bad2 = false := by cases bad2 with
      | true => exact absurd (.inl rfl) h
      | false => rfl
    have h2 : l2.drop a2 = [] := Decidable.not_not.1 (fun h3 => h (.inr h3))
    have h3 := he.1 h2
    have e : (bad || bad2 || decide (l2.drop a2 ≠ [])) = bad := by rw [hb, h2]; simp
    rw [e]
    subst hb
    subst h3
    clear h e he h2
    refine CallsC.of Tryz.call56 Tryz.func56 rfl Tryz.ntmps56 rfl fun w0 G0 S0 hs ho => ?_
    exact run trivial
end Go.Proofs.YtkpghepeagafoaaGreat
set_option linter.unusedVariables false
namespace Go.Ms
open Go.Vk
theorem drop_ne {l : List It} {i : Nat} : l.drop i ≠ [] ↔ i < l.length := by rw [ne_eq, List.drop_eq_nil_iff]; omega
end Go.Ms
set_option maxRecDepth 8000
set_option linter.unusedVariables false
namespace Go.Proofs.YtkpghepeagafoaaGreat
open Go.Vk
attribute [local irreducible] HT HX RegS RegA RegM OpP OpC AltT
attribute [local irreducible] Ber.tagB Ber.lenB Ber.intB Ber.allE Ber.fromIntB Ber.nextB
set_option maxHeartbeats 2000000 in
theorem rdTexts (l : List Ms.It) (a : Nat) (bad : Bool) (t : UInt8) (hl : Ms.wI l ≤ 100000000) (ha : a ≤ l.length) : ∃ a', a' ≤ l.length ∧ l.drop a' = (Ms.textsM false t (l.drop a) bad).2.1 ∧ ∀ g, CallsC Tryz.prog 83 [Is (pAt g 0), okI .u8 (t.toNat : Int)] [RX25 g l a bad] (fun _ => TSl 1 En.cS (Ms.textsM false t (l.drop a) bad).1) (fun _ => [RX25 g l a' (Ms.textsM false t (l.drop a) bad).2.2]) := by
  obtain ⟨a1, h1, h2, c1⟩ := rdInner l a bad t hl ha
  refine ⟨a1, h1, h2, fun g => ?_⟩
  have hw2 := Ms.inner_w (l.drop a) bad t
  have hw3 := Ms.wI_drop l a
  unfold Ms.textsM Ms.innM
  dsimp only [Ms.xbM]
  clear h2
  generalize Ms.takeI (l.drop a) bad t = y at c1 hw2 ⊢
  generalize hpb : Ms.pbM false y = pb at c1 ⊢
  generalize hx : Ms.allI y.1 = x0 at c1 hw2 ⊢
  generalize hb : Ms.badI y.1 = b0 at c1 ⊢
  have hlx := Ms.wI_len x0
  refine CallsC.of Tryz.call83 Tryz.func83 rfl Tryz.ntmps83 rfl fun w0 G0 S0 hs ho => ?_
  refine run ?_
  intro vx
  refine HT.loopX (σ := (List (List UInt8) × Nat × Bool) × Value) [0, 4, 5] (fun t' => [(6, TAnd (Is t'.2) (TSl 1 En.cS t'.1.1))]) (fun t' => [RX25 g l a1 pb, RX25 (blk vx) x0 t'.1.2.1 t'.1.2.2, ownSl t'.2 1 9]) (fun t' => t'.1.2.1 ≤ x0.length ∧ (t'.1.2.2 = false → t'.1.1.length ≤ t'.1.2.1) ∧ t'.1.1.length ≤ x0.length + 1 ∧ t'.1.1 ++ (Ms.repA Ms.textI (x0.drop t'.1.2.1) t'.1.2.2).1 = (Ms.repA Ms.textI x0 b0).1 ∧ (Ms.repA Ms.textI (x0.drop t'.1.2.1) t'.1.2.2).2 = (Ms.repA Ms.textI x0 b0).2) (fun t' => x0.length - t'.1.2.1 + (if t'.1.2.2 then 0 else 1)) (([], 0, b0), .slice none 0 0) ⟨Nat.zero_le _, fun _ => by simp, by simp, rfl, rfl⟩ (run trivial) (run trivial) ?_
  clear c1 hb
  rintro ⟨⟨acc, i, b⟩, w⟩ ⟨h1, h2, h5, h3, h4⟩
  dsimp only at h1 h2 h3 h4 h5 ⊢
  by_cases hgo : x0.drop i ≠ [] ∧ b = false
  · obtain ⟨hne, rfl⟩ := hgo
    rw [Ms.repA_go Ms.textI_eats hne] at h3 h4
    dsimp only at h3 h4
    have h2 := h2 rfl
    have hi := Ms.drop_ne.1 hne
    obtain ⟨i', k1, k2, c2⟩ := rdBody x0 i false 4 (by omega) h1
    have hea := Ms.textI_eats (x0.drop i)
    have hlen : (Ms.textI (x0.drop i) false).2.1.length ≤ (x0.drop i).length := Ms.takeI_len _ _ _
    have e : Ms.textI (x0.drop i) false = Ms.takeI (x0.drop i) false 4 := rfl
    rw [e] at h3 h4 hea hlen
    rw [← k2] at h3 h4 hea hlen
    clear e k2
    generalize Ms.takeI (x0.drop i) false 4 = z at c2 hea hlen h3 h4
    rw [List.length_drop, List.length_drop] at hea hlen
    have c3 : ∀ g, CallsC Tryz.prog 31 [Is (pAt g 0), okI .u8 4] [RX25 g x0 i false] (fun _ => TBytes z.1) (fun _ => [RX25 g x0 i' z.2.2]) := c2
    clear c2
    refine run ?_
    intro v' _
    refine HX.roundX ((acc ++ [z.1], i', z.2.2), v') ⟨⟨by dsimp only; omega, fun hz => by have := hea hz; simp only [List.length_append, List.length_singleton]; omega, by simp only [List.length_append, List.length_singleton]; omega, by dsimp only; rw [List.append_assoc]; exact h3, h4⟩, ?_⟩ rfl (run trivial) (run trivial)
    dsimp only
    split
    · simp; omega
    · rename_i hz
      have := hea (by simpa using hz)
      simp; omega
  · have hend := Ms.repA_end (step := Ms.textI) hgo
    rw [hend] at h3 h4
    rw [List.append_nil] at h3
    dsimp only at h4
    rw [← h3, ← h4]
    have c2 := fun g g2 => rdEnd g g2 l x0 a1 i pb b (by omega) h1
    refine run ?_
    intros
    rename_i hh
    exact absurd ⟨Ms.drop_ne.2 (by omega), hh.1⟩ hgo
theorem rdAttr (l : List Ms.It) (a : Nat) (bad : Bool) (hl : Ms.wI l ≤ 100000000) (ha : a ≤ l.length) : ∃ a', a' ≤ l.length ∧ l.drop a' = (Ms.attM false (l.drop a) bad).2.1 ∧ ∀ g, CallsC Tryz.prog 84 [Is (pAt g 0)] [RX25 g l a bad] (fun _ => TTup [Is (str (Ms.attM false (l.drop a) bad).1.1), TSl 1 En.cS (Ms.attM false (l.drop a) bad).1.2]) (fun _ => [RX25 g l a' (Ms.attM false (l.drop a) bad).2.2]) := by
  obtain ⟨a1, h1, h2, c1⟩ := rdInner l a bad 48 hl ha
  refine ⟨a1, h1, h2, fun g => ?_⟩
  have hw2 := Ms.inner_w (l.drop a) bad 48
  have hw3 := Ms.wI_drop l a
  unfold Ms.attM Ms.innM Ms.attK
  dsimp only [Ms.xbM]
  clear h2
  generalize Ms.takeI (l.drop a) bad 48 = y at c1 hw2 ⊢
  generalize hpb : Ms.pbM false y = pb at c1 ⊢
  generalize Ms.allI y.1 = x0 at c1 hw2 ⊢
  generalize Ms.badI y.1 = b0 at c1 ⊢
  obtain ⟨i1, k1, k2, c2⟩ := rdBody x0 0 b0 4 (by omega) (Nat.zero_le _)
  rw [List.drop_zero] at k2 c2
  have e : Ms.textI x0 b0 = Ms.takeI x0 b0 4 := rfl
  rw [e]
  generalize Ms.takeI x0 b0 4 = p at c2 k2 ⊢
  obtain ⟨i2, k3, k4, c3⟩ := rdTexts x0 i1 p.2.2 49 (by omega) k1
  rw [k2] at k4 c3
  have c4 := fun g g2 => rdEnd g g2 l x0 a1 i2 pb (Ms.textsM false 49 p.2.1 p.2.2).2.2 (by omega) k3
  rw [k4] at c4
  generalize Ms.textsM false 49 p.2.1 p.2.2 = v at c3 c4 ⊢
  have d1 : ∀ g, CallsC Tryz.prog 54 [Is (pAt g 0), okI .u8 48] [RX25 g l a bad] (fun v => Is (pAt (blk v) 0)) (fun v => [RX25 g l a1 pb, RX25 (blk v) x0 0 b0]) := c1
  have d2 : ∀ g, CallsC Tryz.prog 31 [Is (pAt g 0), okI .u8 4] [RX25 g x0 0 b0] (fun _ => TBytes p.1) (fun _ => [RX25 g x0 i1 p.2.2]) := c2
  have d3 : ∀ g, CallsC Tryz.prog 83 [Is (pAt g 0), okI .u8 49] [RX25 g x0 i1 p.2.2] (fun _ => TSl 1 En.cS v.1) (fun _ => [RX25 g x0 i2 v.2.2]) := c3
  clear c1 c2 c3 k2 k4 e
  refine CallsC.of Tryz.call84 Tryz.func84 rfl Tryz.ntmps84 rfl fun w0 G0 S0 hs ho => ?_
  exact run trivial
set_option maxHeartbeats 4000000 in
theorem rdAttrs (l : List Ms.It) (a : Nat) (bad : Bool) (hl : Ms.wI l ≤ 100000000) (ha : a ≤ l.length) : ∃ a', a' ≤ l.length ∧ l.drop a' = (Ms.attrsM false (l.drop a) bad).2.1 ∧ ∀ g, CallsC Tryz.prog 57 [Is (pAt g 0)] [RX25 g l a bad] (fun _ => TSl 2 En.cAttr (Ms.attrsM false (l.drop a) bad).1) (fun _ => [RX25 g l a' (Ms.attrsM false (l.drop a) bad).2.2]) := by
  obtain ⟨a1, h1, h2, c1⟩ := rdInner l a bad 48 hl ha
  refine ⟨a1, h1, h2, fun g => ?_⟩
  have hw2 := Ms.inner_w (l.drop a) bad 48
  have hw3 := Ms.wI_drop l a
  unfold Ms.attrsM
  conv => enter [6, v]; unfold Ms.innM
  conv => enter [5, v]; unfold Ms.innM
  dsimp only [Ms.xbM]
  clear h2
  generalize Ms.takeI (l.drop a) bad 48 = y at c1 hw2 ⊢
  generalize hpb : Ms.pbM false y = pb at c1 ⊢
  generalize hx : Ms.allI y.1 = x0 at c1 hw2 ⊢
  generalize hb : Ms.badI y.1 = b0 at c1 ⊢
  have hlx := Ms.wI_len x0
  have d1 : ∀ g, CallsC Tryz.prog 54 [Is (pAt g 0), okI .u8 48] [RX25 g l a bad] (fun v => Is (pAt (blk v) 0)) (fun v => [RX25 g l a1 pb, RX25 (blk v) x0 0 b0]) := c1
  clear c1
  refine CallsC.of Tryz.call57 Tryz.func57 rfl Tryz.ntmps57 rfl fun w0 G0 S0 hs ho => ?_
  refine run ?_
  intro vx
  refine HT.loopX (σ := (List En.Attr × Nat × Bool) × Value) [0, 2, 3] (fun t' => [(4, TAnd (Is t'.2) (TSl 2 En.cAttr t'.1.1))]) (fun t' => [RX25 g l a1 pb, RX25 (blk vx) x0 t'.1.2.1 t'.1.2.2, ownSl t'.2 2 112]) (fun t' => t'.1.2.1 ≤ x0.length ∧ (t'.1.2.2 = false → t'.1.1.length ≤ t'.1.2.1) ∧ t'.1.1.length ≤ x0.length + 1 ∧ t'.1.1 ++ (Ms.repA (Ms.attrM false) (x0.drop t'.1.2.1) t'.1.2.2).1 = (Ms.repA (Ms.attrM false) x0 b0).1 ∧ (Ms.repA (Ms.attrM false) (x0.drop t'.1.2.1) t'.1.2.2).2 = (Ms.repA (Ms.attrM false) x0 b0).2) (fun t' => x0.length - t'.1.2.1 + (if t'.1.2.2 then 0 else 1)) (([], 0, b0), .slice none 0 0) ⟨Nat.zero_le _, fun _ => by simp, by simp, rfl, rfl⟩ (run trivial) (run trivial) ?_
  clear d1 hb
  rintro ⟨⟨acc, i, b⟩, w⟩ ⟨h1, h2, h5, h3, h4⟩
  dsimp only at h1 h2 h3 h4 h5 ⊢
  by_cases hgo : x0.drop i ≠ [] ∧ b = false
  · obtain ⟨hne, rfl⟩ := hgo
    rw [Ms.repA_go (Ms.attrM_eats false) hne] at h3 h4
    dsimp only at h3 h4
    have h2 := h2 rfl
    have hi := Ms.drop_ne.1 hne
    have hea := Ms.attrM_eats false (x0.drop i)
    have hlen : (Ms.attrM false (x0.drop i) false).2.1.length ≤ (x0.drop i).length := Ms.takeI_len _ _ _
    obtain ⟨i', k1, k2, c2⟩ := rdAttr x0 i false (by omega) h1
    have e : Ms.attrM false (x0.drop i) false = (⟨(Ms.attM false (x0.drop i) false).1.1, (Ms.attM false (x0.drop i) false).1.2⟩, (Ms.attM false (x0.drop i) false).2) := rfl
    rw [e] at h3 h4 hea hlen
    dsimp only at h3 h4 hea hlen
    rw [← k2] at h3 h4 hea hlen
    clear e k2
    generalize Ms.attM false (x0.drop i) false = z at c2 hea hlen h3 h4
    rw [List.length_drop, List.length_drop] at hea hlen
    refine run ?_
    intro v0 v' _
    refine HX.roundX ((acc ++ [⟨z.1.1, z.1.2⟩], i', z.2.2), v') ⟨⟨by dsimp only; omega, fun hz => by have := hea hz; simp only [List.length_append, List.length_singleton]; omega, by simp only [List.length_append, List.length_singleton]; omega, by dsimp only; rw [List.append_assoc]; exact h3, h4⟩, ?_⟩ rfl (run trivial) (run trivial)
    dsimp only
    split
    · simp; omega
    · rename_i hz
      have := hea (by simpa using hz)
      simp; omega
  · have hend := Ms.repA_end (step := Ms.attrM false) hgo
    rw [hend] at h3 h4
    rw [List.append_nil] at h3
    dsimp only at h4
    rw [← h3, ← h4]
    have c2 := fun g g2 => rdEnd g g2 l x0 a1 i pb b (by omega) h1
    refine run ?_
    intros
    rename_i hh
    exact absurd ⟨Ms.drop_ne.2 (by omega), hh.1⟩ hgo
set_option maxHeartbeats 4000000 in
theorem rdMods (l : List Ms.It) (a : Nat) (bad : Bool) (hl : Ms.wI l ≤ 100000000) (ha : a ≤ l.length) : ∃ a', a' ≤ l.length ∧ l.drop a' = (Ms.modsM false (l.drop a) bad).2.1 ∧ ∀ g, CallsC Tryz.prog 55 [Is (pAt g 0)] [RX25 g l a bad] (fun _ => TSl 3 Ms.cMod (Ms.modsM false (l.drop a) bad).1) (fun _ => [RX25 g l a' (Ms.modsM false (l.drop a) bad).2.2]) := by
  obtain ⟨a1, h1, h2, c1⟩ := rdInner l a bad 48 hl ha
  refine ⟨a1, h1, h2, fun g => ?_⟩
  have hw2 := Ms.inner_w (l.drop a) bad 48
  have hw3 := Ms.wI_drop l a
  unfold Ms.modsM
  conv => enter [6, v]; unfold Ms.innM
  conv => enter [5, v]; unfold Ms.innM
  dsimp only [Ms.xbM]
  clear h2
  generalize Ms.takeI (l.drop a) bad 48 = y at c1 hw2 ⊢
  generalize hpb : Ms.pbM false y = pb at c1 ⊢
  generalize hx : Ms.allI y.1 = x0 at c1 hw2 ⊢
  generalize hb : Ms.badI y.1 = b0 at c1 ⊢
  have hlx := Ms.wI_len x0
  have d1 : ∀ g, CallsC Tryz.prog 54 [Is (pAt g 0), okI .u8 48] [RX25 g l a bad] (fun v => Is (pAt (blk v) 0)) (fun v => [RX25 g l a1 pb, RX25 (blk v) x0 0 b0]) := c1
  clear c1
  refine CallsC.of Tryz.call55 Tryz.func55 rfl Tryz.ntmps55 rfl fun w0 G0 S0 hs ho => ?_
  refine run ?_
  intro vx
  refine HT.loopX (σ := (List Ms.Mod × Nat × Bool) × Value) [0, 2, 3] (fun t' => [(4, TAnd (Is t'.2) (TSl 3 Ms.cMod t'.1.1))]) (fun t' => [RX25 g l a1 pb, RX25 (blk vx) x0 t'.1.2.1 t'.1.2.2, ownSl t'.2 3 110]) (fun t' => t'.1.2.1 ≤ x0.length ∧ (t'.1.2.2 = false → t'.1.1.length ≤ t'.1.2.1) ∧ t'.1.1.length ≤ x0.length + 1 ∧ t'.1.1 ++ (Ms.repA (Ms.modM false) (x0.drop t'.1.2.1) t'.1.2.2).1 = (Ms.repA (Ms.modM false) x0 b0).1 ∧ (Ms.repA (Ms.modM false) (x0.drop t'.1.2.1) t'.1.2.2).2 = (Ms.repA (Ms.modM false) x0 b0).2) (fun t' => x0.length - t'.1.2.1 + (if t'.1.2.2 then 0 else 1)) (([], 0, b0), .slice none 0 0) ⟨Nat.zero_le _, fun _ => by simp, by simp, rfl, rfl⟩ (run trivial) (run trivial) ?_
  clear d1 hb
  rintro ⟨⟨acc, i, b⟩, w⟩ ⟨h1, h2, h5, h3, h4⟩
  dsimp only at h1 h2 h3 h4 h5 ⊢
  by_cases hgo : x0.drop i ≠ [] ∧ b = false
  · obtain ⟨hne, rfl⟩ := hgo
    rw [Ms.repA_go (Ms.modM_eats false) hne] at h3 h4
    dsimp only at h3 h4
    have h2 := h2 rfl
    have hi := Ms.drop_ne.1 hne
    have hea := Ms.modM_eats false (x0.drop i)
    have hlen : (Ms.modM false (x0.drop i) false).2.1.length ≤ (x0.drop i).length := Ms.takeI_len _ _ _
    obtain ⟨i', k1, k2, c2⟩ := rdInner x0 i false 48 (by omega) h1
    have e : Ms.modM false (x0.drop i) false = (let y := Ms.takeI (x0.drop i) false 48; let k := Ms.numR (Ms.allI y.1) (Ms.badI y.1) 10 0 2; let a := Ms.attM false k.2.1 k.2.2; (⟨k.1, a.1.1, a.1.2⟩, y.2.1, Ms.endI (Ms.pbM false y) a.2.2 a.2.1)) := rfl
    rw [e] at h3 h4 hea hlen
    have hw4 := Ms.inner_w (x0.drop i) false 48
    have hw5 := Ms.wI_drop x0 i
    generalize Ms.takeI (x0.drop i) false 48 = y2 at c2 hea hlen h3 h4 hw4 k2
    dsimp only at hea hlen h3 h4
    rw [← k2] at h3 h4 hea hlen
    clear e k2
    generalize Ms.pbM false y2 = p2 at c2 hea h3 h4
    generalize Ms.allI y2.1 = x2 at c2 hea h3 h4 hw4
    generalize Ms.badI y2.1 = b2 at c2 hea h3 h4
    rw [List.length_drop, List.length_drop] at hlen
    rw [List.length_drop, List.length_drop] at hea
    obtain ⟨j1, k3, k4, c3⟩ := rdNum x2 0 b2 10 0 2 (by omega) (Nat.zero_le _)
    rw [List.drop_zero] at k4 c3
    generalize Ms.numR x2 b2 10 0 2 = k at c3 hea h3 h4 k4
    obtain ⟨j2, k5, k6, c4⟩ := rdAttr x2 j1 k.2.2 (by omega) k3
    rw [k4] at k6 c4
    generalize Ms.attM false k.2.1 k.2.2 = at' at c4 hea h3 h4 k6
    have c5 := fun g g2 => rdEnd g g2 x0 x2 i' j2 p2 at'.2.2 (by omega) k5
    rw [k6] at c5
    have d2 : ∀ g, CallsC Tryz.prog 54 [Is (pAt g 0), okI .u8 48] [RX25 g x0 i false] (fun v => Is (pAt (blk v) 0)) (fun v => [RX25 g x0 i' p2, RX25 (blk v) x2 0 b2]) := c2
    have d3 : ∀ g, CallsC Tryz.prog 28 [Is (pAt g 0), okI .u8 10, okI .i64 0, okI .i64 2] [RX25 g x2 0 b2] (fun _ => okI .i64 k.1) (fun _ => [RX25 g x2 j1 k.2.2]) := c3
    clear c2 c3 k4 k6
    refine run ?_
    intro v0 v1 v' _
    refine HX.roundX ((acc ++ [⟨k.1, at'.1.1, at'.1.2⟩], i', Ms.endI p2 at'.2.2 at'.2.1), v') ⟨⟨by dsimp only; omega, fun hz => by have := hea hz; simp only [List.length_append, List.length_singleton]; omega, by simp only [List.length_append, List.length_singleton]; omega, by dsimp only; rw [List.append_assoc]; exact h3, h4⟩, ?_⟩ rfl (run trivial) (run trivial)
    dsimp only
    split
    · simp; omega
    · rename_i hz
      have := hea (by simpa using hz)
      simp; omega
  · have hend := Ms.repA_end (step := Ms.modM false) hgo
    rw [hend] at h3 h4
    rw [List.append_nil] at h3
    dsimp only at h4
    rw [← h3, ← h4]
    have c2 := fun g g2 => rdEnd g g2 l x0 a1 i pb b (by omega) h1
    refine run ?_
    intros
    rename_i hh
    exact absurd ⟨Ms.drop_ne.2 (by omega), hh.1⟩ hgo
end Go.Proofs.YtkpghepeagafoaaGreat
set_option linter.unusedVariables false
namespace Go.Ms
open Go.Vk
theorem peek_is {l : List It} {bad : Bool} {t : UInt8} (h : isI l bad t = true) : ((peekI l bad).toNat : Int) = (t.toNat : Int) := by
  obtain ⟨rfl, x, r, rfl, hx, _⟩ := takeI_is h
  have e : peekI (x :: r) false = x.1 := by simp [peekI]
  rw [e, hx]
theorem peek_not {l : List It} {bad : Bool} {t : UInt8} (h0 : t ≠ 0) (h : isI l bad t = false) : ¬ ((peekI l bad).toNat : Int) = (t.toNat : Int) := by
  intro e
  have e2 : peekI l bad = t := u8_i.1 e
  cases l with
  | nil => exact h0 e2.symm
  | cons x r =>
    cases bad with
    | true => exact h0 (by rw [← e2]; rfl)
    | false =>
      have e3 : peekI (x :: r) false = x.1 := by simp [peekI]
      rw [e3] at e2
      have h' : (!false && decide (x.1 = t)) = false := h
      rw [decide_eq_true e2] at h'
      cases h'
end Go.Ms
set_option maxRecDepth 8000
set_option linter.unusedVariables false
namespace Go.Proofs.YtkpghepeagafoaaGreat
open Go.Vk
attribute [local irreducible] HT HX RegS RegA RegM OpP OpC AltT
attribute [local irreducible] Ber.tagB Ber.lenB Ber.intB Ber.allE Ber.fromIntB Ber.nextB Ms.midB
set_option maxHeartbeats 4000000 in
theorem rdSubs (l : List Ms.It) (a : Nat) (bad : Bool) (hl : Ms.wI l ≤ 100000000) (ha : a ≤ l.length) : ∃ a', a' ≤ l.length ∧ l.drop a' = (Ms.subsM false (l.drop a) bad).2.1 ∧ ∀ g, CallsC Tryz.prog 102 [Is (pAt g 0)] [RX25 g l a bad] (fun _ => TSl 1 En.cS (Ms.subsM false (l.drop a) bad).1) (fun _ => [RX25 g l a' (Ms.subsM false (l.drop a) bad).2.2]) := by
  obtain ⟨a1, h1, h2, c1⟩ := rdInner l a bad 48 hl ha
  refine ⟨a1, h1, h2, fun g => ?_⟩
  have hw2 := Ms.inner_w (l.drop a) bad 48
  have hw3 := Ms.wI_drop l a
  unfold Ms.subsM Ms.innM
  dsimp only [Ms.xbM]
  clear h2
  generalize Ms.takeI (l.drop a) bad 48 = y at c1 hw2 ⊢
  generalize hpb : Ms.pbM false y = pb at c1 ⊢
  generalize hx : Ms.allI y.1 = x0 at c1 hw2 ⊢
  generalize hb : Ms.badI y.1 = b0 at c1 ⊢
  have hle := Ms.wI_len x0
  have d0 : ∀ g, CallsC Tryz.prog 54 [Is (pAt g 0), okI .u8 48] [RX25 g l a bad] (fun v => Is (pAt (blk v) 0)) (fun v => [RX25 g l a1 pb, RX25 (blk v) x0 0 b0]) := c1
  clear c1
  have c2 := fun g => rdPeek g x0 0 b0 (by omega) (Nat.zero_le _)
  rw [List.drop_zero] at c2
  have ma := MutA.mk' [8]
  have gv := Giv.mk' 2 2
  have hset : SetF (fun ts : List Ty => ts) 0 (fun x : List UInt8 => Is (str x)) (fun ts x => ts.set 0 (Is (str x))) := ⟨fun _ _ => rfl⟩
  cases hi : Ms.isI x0 b0 128 with
  | true =>
    have f0 : ((Ms.peekI x0 b0).toNat : Int) = 128 := Ms.peek_is hi
    obtain ⟨hb0, it0, r0, hd0, ht0, et0⟩ := Ms.takeI_is hi
    obtain ⟨i0, k1, k2, c3⟩ := rdBody x0 0 b0 128 (by omega) (Nat.zero_le _)
    rw [List.drop_zero, et0] at k2 c3
    dsimp only at k2 c3
    have hi0 : i0 = 1 := by
      have := congrArg List.length k2
      rw [List.length_drop] at this
      rw [hd0, List.length_cons] at this
      rw [hd0, List.length_cons] at k1
      omega
    subst hi0
    have hF : Ms.mayI x0 b0 128 = (it0.2, x0.drop 1, false) := by unfold Ms.mayI; rw [if_pos hi, et0, k2]
    have c4 : ∀ g, CallsC Tryz.prog 31 [Is (pAt g 0), okI .u8 128] [RX25 g x0 0 b0] (fun _ => TBytes it0.2) (fun _ => [RX25 g x0 1 false]) := c3
    generalize ((Ms.peekI x0 b0).toNat : Int) = p at c2 f0
    clear c3 et0 hd0 k2
    refine CallsC.of Tryz.call102 Tryz.func102 rfl Tryz.ntmps102 rfl fun w0 G0 S0 hs ho => ?_
    refine run ?_
    intro v0 v1 _
    clear c2 c4 d0
    rw [show ownA (sblk v1) (scap v1) 9 1 (fun ts : List Ty => ts) [([[Is (.string { data := #[] })]].getD 0 default).set 0 (Is (str it0.2))] = ownA (sblk v1) (scap v1) 9 1 En.cS [it0.2] from ownA_map En.cS [it0.2]]
    refine HT.loopX (σ := List (List UInt8) × Nat × Nat × Nat) [0, 2, 3] (fun t => [(4, Is (slAt t.2.2.1 t.1.length t.2.2.2))]) (fun t => [RX25 g l a1 pb, RX25 (blk v0) x0 t.2.1 false, ownA t.2.2.1 t.2.2.2 9 1 En.cS t.1]) (fun t => t.2.1 ≤ x0.length ∧ (0 < t.1.length ∧ t.1.length ≤ t.2.1 + 1) ∧ t.1 ++ (Ms.midB false (x0.drop t.2.1)).1 = [it0.2] ++ (Ms.midB false (x0.drop 1)).1 ∧ (Ms.midB false (x0.drop t.2.1)).2 = (Ms.midB false (x0.drop 1)).2) (fun t => x0.length - t.2.1) ([it0.2], 1, sblk v1, scap v1) ⟨by dsimp only; omega, ⟨by simp, by simp⟩, rfl, rfl⟩ (by first | exact run trivial | (refine run ?_; rfl)) (by first | exact run trivial | (refine run ?_; rfl)) ?_
    rintro ⟨acc, i, bk, cp⟩ ⟨h1, h2, h3, h4⟩
    dsimp only at h1 h2 h3 h4 ⊢
    have d1 := fun g => rdPeek g x0 i false (by omega) h1
    cases hm : Ms.isI (x0.drop i) false 129 with
    | true =>
      have f1 : ((Ms.peekI (x0.drop i) false).toNat : Int) = 129 := Ms.peek_is hm
      obtain ⟨hb2, it, r, hd, ht, et⟩ := Ms.takeI_is hm
      obtain ⟨e1, e2, e3⟩ := Ms.drop_at hd
      obtain ⟨i', k1, k2, d2⟩ := rdBody x0 i false 129 (by omega) h1
      rw [et] at k2 d2
      dsimp only at k2 d2
      have hi' : i' = i + 1 := by
        have := congrArg List.length k2
        rw [← e3, List.length_drop, List.length_drop] at this
        omega
      subst hi'
      rw [hd, Ms.midB_go hb2 ht] at h3 h4
      dsimp only at h3 h4
      rw [← e3] at h3 h4
      have d3 : ∀ g, CallsC Tryz.prog 31 [Is (pAt g 0), okI .u8 129] [RX25 g x0 i false] (fun _ => TBytes it.2) (fun _ => [RX25 g x0 (i + 1) false]) := d2
      rw [← hb2] at d3
      generalize ((Ms.peekI (x0.drop i) false).toNat : Int) = p at d1 f1
      clear d2 et hd e2 e3 k2
      refine run ?_
      intro v2 _
      refine HX.roundX (acc ++ [it.2], i + 1, sblk v2, scap v2) ⟨⟨by dsimp only; omega, ⟨by simp, by simp only [List.length_append, List.length_singleton]; omega⟩, by dsimp only; rw [List.append_assoc]; exact h3, h4⟩, by dsimp only; omega⟩ rfl (run trivial) (run trivial)
    | false =>
      have f1 : ¬ ((Ms.peekI (x0.drop i) false).toNat : Int) = 129 := Ms.peek_not (t := 129) (by decide) hm
      rw [Ms.midB_end hm] at h3 h4
      rw [List.append_nil] at h3
      dsimp only at h4
      have eK : Ms.subsK x0 b0 = (acc ++ [(Ms.mayI (x0.drop i) false 130).1], (Ms.mayI (x0.drop i) false 130).2) := by
        rw [Ms.subsK_def, hF]
        dsimp only
        rw [← h4]
        rw [List.singleton_append] at h3
        rw [h3]
        rfl
      rw [eK]
      dsimp only
      clear h3 h4 eK
      cases he : Ms.isI (x0.drop i) false 130 with
      | true =>
        have f2 : ((Ms.peekI (x0.drop i) false).toNat : Int) = 130 := Ms.peek_is he
        obtain ⟨hb2, it, r, hd, ht, et⟩ := Ms.takeI_is he
        obtain ⟨i', k1, k2, d2⟩ := rdBody x0 i false 130 (by omega) h1
        have em : Ms.mayI (x0.drop i) false 130 = (it.2, r, false) := by unfold Ms.mayI; rw [if_pos he, et]
        rw [et] at k2 d2
        rw [em]
        dsimp only at k2 d2 ⊢
        have d4 := fun g g2 => rdEnd g g2 l x0 a1 i' pb false (by omega) k1
        rw [k2] at d4
        have d3 : ∀ g, CallsC Tryz.prog 31 [Is (pAt g 0), okI .u8 130] [RX25 g x0 i false] (fun _ => TBytes it.2) (fun _ => [RX25 g x0 i' false]) := d2
        generalize ((Ms.peekI (x0.drop i) false).toNat : Int) = p at d1 f1 f2
        clear d2 et hd k2
        exact run trivial
      | false =>
        have f2 : ¬ ((Ms.peekI (x0.drop i) false).toNat : Int) = 130 := Ms.peek_not (t := 130) (by decide) he
        have em : Ms.mayI (x0.drop i) false 130 = ([], x0.drop i, false) := by unfold Ms.mayI; rw [if_neg (by rw [he]; simp)]
        rw [em]
        dsimp only
        have d4 := fun g g2 => rdEnd g g2 l x0 a1 i pb false (by omega) h1
        generalize ((Ms.peekI (x0.drop i) false).toNat : Int) = p at d1 f1 f2
        exact run trivial
  | false =>
    have f0 : ¬ ((Ms.peekI x0 b0).toNat : Int) = 128 := Ms.peek_not (t := 128) (by decide) hi
    have hF : Ms.mayI x0 b0 128 = ([], x0.drop 0, b0) := by unfold Ms.mayI; rw [if_neg (by rw [hi]; simp), List.drop_zero]
    generalize ((Ms.peekI x0 b0).toNat : Int) = p at c2 f0
    refine CallsC.of Tryz.call102 Tryz.func102 rfl Tryz.ntmps102 rfl fun w0 G0 S0 hs ho => ?_
    refine run ?_
    intro v0 v1 _
    clear c2 d0
    rw [show ownA (sblk v1) (scap v1) 9 1 (fun ts : List Ty => ts) [[Is (.string { data := #[] })]] = ownA (sblk v1) (scap v1) 9 1 En.cS [[]] from ownA_map En.cS [[]]]
    refine HT.loopX (σ := List (List UInt8) × Nat × Nat × Nat) [0, 2, 3] (fun t => [(4, Is (slAt t.2.2.1 t.1.length t.2.2.2))]) (fun t => [RX25 g l a1 pb, RX25 (blk v0) x0 t.2.1 b0, ownA t.2.2.1 t.2.2.2 9 1 En.cS t.1]) (fun t => t.2.1 ≤ x0.length ∧ (0 < t.1.length ∧ t.1.length ≤ t.2.1 + 1) ∧ t.1 ++ (Ms.midB b0 (x0.drop t.2.1)).1 = [[]] ++ (Ms.midB b0 (x0.drop 0)).1 ∧ (Ms.midB b0 (x0.drop t.2.1)).2 = (Ms.midB b0 (x0.drop 0)).2) (fun t => x0.length - t.2.1) ([[]], 0, sblk v1, scap v1) ⟨by dsimp only; omega, ⟨by simp, by simp⟩, rfl, rfl⟩ (by first | exact run trivial | (refine run ?_; rfl)) (by first | exact run trivial | (refine run ?_; rfl)) ?_
    rintro ⟨acc, i, bk, cp⟩ ⟨h1, h2, h3, h4⟩
    dsimp only at h1 h2 h3 h4 ⊢
    have d1 := fun g => rdPeek g x0 i b0 (by omega) h1
    cases hm : Ms.isI (x0.drop i) b0 129 with
    | true =>
      have f1 : ((Ms.peekI (x0.drop i) b0).toNat : Int) = 129 := Ms.peek_is hm
      obtain ⟨hb2, it, r, hd, ht, et⟩ := Ms.takeI_is hm
      obtain ⟨e1, e2, e3⟩ := Ms.drop_at hd
      obtain ⟨i', k1, k2, d2⟩ := rdBody x0 i b0 129 (by omega) h1
      rw [et] at k2 d2
      dsimp only at k2 d2
      have hi' : i' = i + 1 := by
        have := congrArg List.length k2
        rw [← e3, List.length_drop, List.length_drop] at this
        omega
      subst hi'
      rw [hd, Ms.midB_go hb2 ht] at h3 h4
      dsimp only at h3 h4
      rw [← e3] at h3 h4
      have d3 : ∀ g, CallsC Tryz.prog 31 [Is (pAt g 0), okI .u8 129] [RX25 g x0 i b0] (fun _ => TBytes it.2) (fun _ => [RX25 g x0 (i + 1) false]) := d2
      rw [← hb2] at d3
      generalize ((Ms.peekI (x0.drop i) b0).toNat : Int) = p at d1 f1
      clear d2 et hd e2 e3 k2
      refine run ?_
      intro v2 _
      refine HX.roundX (acc ++ [it.2], i + 1, sblk v2, scap v2) ⟨⟨by dsimp only; omega, ⟨by simp, by simp only [List.length_append, List.length_singleton]; omega⟩, by dsimp only; rw [List.append_assoc]; exact h3, h4⟩, by dsimp only; omega⟩ rfl (run trivial) (run trivial)
    | false =>
      have f1 : ¬ ((Ms.peekI (x0.drop i) b0).toNat : Int) = 129 := Ms.peek_not (t := 129) (by decide) hm
      rw [Ms.midB_end hm] at h3 h4
      rw [List.append_nil] at h3
      dsimp only at h4
      have eK : Ms.subsK x0 b0 = (acc ++ [(Ms.mayI (x0.drop i) b0 130).1], (Ms.mayI (x0.drop i) b0 130).2) := by
        rw [Ms.subsK_def, hF]
        dsimp only
        rw [← h4]
        rw [List.singleton_append] at h3
        rw [h3]
        rfl
      rw [eK]
      dsimp only
      clear h3 h4 eK
      cases he : Ms.isI (x0.drop i) b0 130 with
      | true =>
        have f2 : ((Ms.peekI (x0.drop i) b0).toNat : Int) = 130 := Ms.peek_is he
        obtain ⟨hb2, it, r, hd, ht, et⟩ := Ms.takeI_is he
        obtain ⟨i', k1, k2, d2⟩ := rdBody x0 i b0 130 (by omega) h1
        have em : Ms.mayI (x0.drop i) b0 130 = (it.2, r, false) := by unfold Ms.mayI; rw [if_pos he, et]
        rw [et] at k2 d2
        rw [em]
        dsimp only at k2 d2 ⊢
        have d4 := fun g g2 => rdEnd g g2 l x0 a1 i' pb false (by omega) k1
        rw [k2] at d4
        have d3 : ∀ g, CallsC Tryz.prog 31 [Is (pAt g 0), okI .u8 130] [RX25 g x0 i b0] (fun _ => TBytes it.2) (fun _ => [RX25 g x0 i' false]) := d2
        generalize ((Ms.peekI (x0.drop i) b0).toNat : Int) = p at d1 f1 f2
        clear d2 et hd k2
        exact run trivial
      | false =>
        have f2 : ¬ ((Ms.peekI (x0.drop i) b0).toNat : Int) = 130 := Ms.peek_not (t := 130) (by decide) he
        have em : Ms.mayI (x0.drop i) b0 130 = ([], x0.drop i, b0) := by unfold Ms.mayI; rw [if_neg (by rw [he]; simp)]
        rw [em]
        dsimp only
        have d4 := fun g g2 => rdEnd g g2 l x0 a1 i pb b0 (by omega) h1
        generalize ((Ms.peekI (x0.drop i) b0).toNat : Int) = p at d1 f1 f2
        exact run trivial
set_option maxHeartbeats 4000000 in
theorem rdPair (l : List Ms.It) (a : Nat) (bad : Bool) (t : UInt8) (k : Int) (hl : Ms.wI l ≤ 100000000) (ha : a ≤ l.length) : ∃ a', a' ≤ l.length ∧ l.drop a' = (Ms.innM false t Ms.pairK (l.drop a) bad).2.1 ∧ ∀ g, CallsC Tryz.prog 101 [Is (pAt g 0), okI .u8 (t.toNat : Int), okI .i64 k] [RX25 g l a bad] (fun _ => TAgg (Fi.cF (.mk k (Ms.innM false t Ms.pairK (l.drop a) bad).1.1 (Ms.innM false t Ms.pairK (l.drop a) bad).1.2 [] []))) (fun _ => [RX25 g l a' (Ms.innM false t Ms.pairK (l.drop a) bad).2.2]) := by
  obtain ⟨a1, h1, h2, c1⟩ := rdInner l a bad t hl ha
  refine ⟨a1, h1, h2, fun g => ?_⟩
  have hw2 := Ms.inner_w (l.drop a) bad t
  have hw3 := Ms.wI_drop l a
  unfold Ms.innM Ms.pairK
  dsimp only [Ms.xbM]
  rw [Fi.cF_open]
  dsimp only [Fi.Fil.kind, Fi.Fil.typ, Fi.Fil.val, Fi.Fil.subs, Fi.Fil.kids]
  clear h2
  generalize Ms.takeI (l.drop a) bad t = y at c1 hw2 ⊢
  generalize hpb : Ms.pbM false y = pb at c1 ⊢
  generalize hx : Ms.allI y.1 = x0 at c1 hw2 ⊢
  generalize hb : Ms.badI y.1 = b0 at c1 ⊢
  have e : ∀ x b, Ms.textI x b = Ms.takeI x b 4 := fun _ _ => rfl
  rw [e, e]
  obtain ⟨i1, k1, k2, c2⟩ := rdBody x0 0 b0 4 (by omega) (Nat.zero_le _)
  rw [List.drop_zero] at k2 c2
  generalize Ms.takeI x0 b0 4 = p at c2 k2 ⊢
  obtain ⟨i2, k3, k4, c3⟩ := rdBody x0 i1 p.2.2 4 (by omega) k1
  rw [k2] at k4 c3
  generalize Ms.takeI p.2.1 p.2.2 4 = q at c3 k4 ⊢
  have c4 := fun g g2 => rdEnd g g2 l x0 a1 i2 pb q.2.2 (by omega) k3
  rw [k4] at c4
  have d2 : ∀ g, CallsC Tryz.prog 31 [Is (pAt g 0), okI .u8 4] [RX25 g x0 0 b0] (fun _ => TBytes p.1) (fun _ => [RX25 g x0 i1 p.2.2]) := c2
  have kk : Hold (∀ g, CallsC Tryz.prog 31 [Is (pAt g 0), okI .u8 4] [RX25 g x0 i1 p.2.2] (fun _ => TBytes q.1) (fun _ => [RX25 g x0 i2 q.2.2])) := ⟨c3⟩
  clear c2 c3 k2 k4
  have st := Stop.mk' 3
  refine CallsC.of Tryz.call101 Tryz.func101 rfl Tryz.ntmps101 rfl fun w0 G0 S0 hs ho => ?_
  refine run ?_
  intros
  refine HTs.mk ?_
  have d3 := kk.h
  clear st d2 kk
  exact run trivial
end Go.Proofs.YtkpghepeagafoaaGreat
set_option linter.unusedVariables false
namespace Go.Ms
open Go.Vk
open Go.Fi (Fil)
theorem filtD_eats (n : Nat) : Eats (filtD n) := by
  intro l h
  have e := ((filt_eqv n l false).1 h).1
  rw [← e] at h ⊢
  exact filtP_eats n l h
theorem filtD_S (n : Nat) (l : List It) (bad : Bool) : filtD (n + 1) l bad = (let t := peekI l bad
    if t = 160 ∨ t = 161 ∨ t = 162 then let z := innM false t (repA (filtD n)) l bad; (.mk ((t.toNat : Int) - 160) [] [] [] z.1, z.2)
    else if t = 163 ∨ t = 165 ∨ t = 166 then let z := innM false t pairK l bad; (.mk ((t.toNat : Int) - 160) z.1.1 z.1.2 [] [], z.2)
    else if t = 168 then let z := innM false t pairK l bad; (.mk 3 z.1.1 z.1.2 [] [], z.2)
    else if t = 164 then let z := innM false t (leafK false) l bad; (.mk 4 z.1.1 [] z.1.2 [], z.2)
    else let y := takeI l bad 135; (.mk 7 y.1 [] [] [], y.2)) := by
  conv => lhs; unfold filtD
theorem filtD_len (n : Nat) (l : List It) (bad : Bool) : (filtD n l bad).2.1.length ≤ l.length := by
  cases n with
  | zero => exact Nat.le_refl _
  | succ n =>
    rw [filtD_S]
    dsimp only
    split
    · exact takeI_len _ _ _
    split
    · exact takeI_len _ _ _
    split
    · exact takeI_len _ _ _
    split
    · exact takeI_len _ _ _
    · exact takeI_len _ _ _
theorem peek_v {t : UInt8} {n : Nat} (hn : n < 256) (h : t ≠ UInt8.ofNat n) : ¬ (t.toNat : Int) = (n : Int) := fun e => h (by
    apply UInt8.toNat_inj.1
    rw [UInt8.toNat_ofNat']
    omega)
end Go.Ms
set_option maxRecDepth 8000
set_option linter.unusedVariables false
namespace Go.Proofs.YtkpghepeagafoaaGreat
open Go.Vk
attribute [local irreducible] HT HX RegS RegA RegM OpP OpC AltT
attribute [local irreducible] Ber.tagB Ber.lenB Ber.intB Ber.allE Ber.fromIntB Ber.nextB Ms.midB Ms.filtD Ms.subsM
/-- The contract of the document's reader of filters that hold others so deep. -/
def FiltDC (n : Nat) : Prop := ∀ (l : List Ms.It) (a : Nat) (bad : Bool), Ms.wI l ≤ 100000000 → a ≤ l.length → ∃ a', a' ≤ l.length ∧ l.drop a' = (Ms.filtD n (l.drop a) bad).2.1 ∧ ∀ g, CallsC Tryz.prog 82 [Is (pAt g 0), okI .i64 (17 - (n : Int))] [RX25 g l a bad] (fun _ => TAgg (Fi.cF (Ms.filtD n (l.drop a) bad).1)) (fun _ => [RX25 g l a' (Ms.filtD n (l.drop a) bad).2.2])
theorem rdFilt0 : FiltDC 0 := by
  intro l a bad hl ha
  have e : Ms.filtD 0 (l.drop a) bad = (Fi.zeroF, l.drop a, true) := by unfold Ms.filtD; rfl
  rw [e]
  dsimp only
  refine ⟨a, ha, rfl, fun g => ?_⟩
  rw [Fi.cF_open]
  have c1 := rdPeek g l a bad hl ha
  refine CallsC.of Tryz.call82 Tryz.func82 rfl Tryz.ntmps82 rfl fun w0 G0 S0 hs ho => ?_
  refine run ?_
  and_intros <;> intros <;> rfl
set_option maxHeartbeats 4000000 in
theorem rdFiltK (n : Nat) (hn : n + 1 ≤ 16) (IH : FiltDC n) (l : List Ms.It) (a : Nat) (bad : Bool) (hl : Ms.wI l ≤ 100000000) (ha : a ≤ l.length) (t : UInt8) (ht : Ms.peekI (l.drop a) bad = t) (hk : t = 160 ∨ t = 161 ∨ t = 162) : ∃ a', a' ≤ l.length ∧ l.drop a' = (Ms.innM false t (Ms.repA (Ms.filtD n)) (l.drop a) bad).2.1 ∧ ∀ g, CallsC Tryz.prog 82 [Is (pAt g 0), okI .i64 (17 - ((n + 1 : Nat) : Int))] [RX25 g l a bad] (fun _ => TAgg (Fi.cF (.mk ((t.toNat : Int) - 160) [] [] [] (Ms.innM false t (Ms.repA (Ms.filtD n)) (l.drop a) bad).1))) (fun _ => [RX25 g l a' (Ms.innM false t (Ms.repA (Ms.filtD n)) (l.drop a) bad).2.2]) := by
  obtain ⟨a1, h1, h2, c2⟩ := rdInner l a bad t hl ha
  refine ⟨a1, h1, h2, fun g => ?_⟩
  have c1 := rdPeek g l a bad hl ha
  rw [ht] at c1
  have hw2 := Ms.inner_w (l.drop a) bad t
  have hw3 := Ms.wI_drop l a
  unfold Ms.innM
  dsimp only [Ms.xbM]
  rw [Fi.cF_open]
  dsimp only [Fi.Fil.kind, Fi.Fil.typ, Fi.Fil.val, Fi.Fil.subs, Fi.Fil.kids]
  clear h2 ht
  have hp : (t.toNat : Int) = 160 ∨ (t.toNat : Int) = 161 ∨ (t.toNat : Int) = 162 := by
    rcases hk with rfl | rfl | rfl
    · exact .inl rfl
    · exact .inr (.inl rfl)
    · exact .inr (.inr rfl)
  generalize Ms.takeI (l.drop a) bad t = y at c2 hw2 ⊢
  generalize hpb : Ms.pbM false y = pb at c2 ⊢
  generalize hx : Ms.allI y.1 = x0 at c2 hw2 ⊢
  generalize hb : Ms.badI y.1 = b0 at c2 ⊢
  generalize (t.toNat : Int) = p at c1 c2 hp ⊢
  have hlx := Ms.wI_len x0
  have hdp : (17 : Int) - ((n + 1 : Nat) : Int) + 1 = 17 - (n : Int) := by omega
  have pl := Plan.mk' 12 [(0,3,[]),(2,3,[]),(3,3,[]),(4,3,[]),(8,3,[]),(1,2,[3]),(5,0,[3]),(6,3,[]),(7,0,[]),(9,0,[])]
  refine CallsC.of Tryz.call82 Tryz.func82 rfl Tryz.ntmps82 rfl fun w0 G0 S0 hs ho => ?_
  refine run ?_
  refine ⟨?_, ?_, ?_⟩ <;> intro v4 vx v7 <;> intros
  all_goals
    clear c1 c2
    refine HT.loopX (σ := (List Fi.Fil × Nat × Bool) × Value) [0, 1, 4, 5, 6, 7, 18] (fun t' => []) (fun t' => [RX25 g l a1 pb, ownP (blk v4) 43 [Is (.int .i64 0), Is (str []), Is (str []), Is (.slice none 0 0), Is (.slice none 0 0)], RX25 (blk vx) x0 t'.1.2.1 t'.1.2.2, ownP (blk v7) 43 [okI .i64 (p - 160), Is (str []), Is (str []), Is (.slice none 0 0), TAnd (Is t'.2) (TSl 5 Fi.cF t'.1.1)], ownSl t'.2 5 43]) (fun t' => t'.1.2.1 ≤ x0.length ∧ (t'.1.2.2 = false → t'.1.1.length ≤ t'.1.2.1) ∧ t'.1.1.length ≤ x0.length + 1 ∧ t'.1.1 ++ (Ms.repA (Ms.filtD n) (x0.drop t'.1.2.1) t'.1.2.2).1 = (Ms.repA (Ms.filtD n) x0 b0).1 ∧ (Ms.repA (Ms.filtD n) (x0.drop t'.1.2.1) t'.1.2.2).2 = (Ms.repA (Ms.filtD n) x0 b0).2) (fun t' => x0.length - t'.1.2.1 + (if t'.1.2.2 then 0 else 1)) (([], 0, b0), .slice none 0 0) ⟨Nat.zero_le _, fun _ => by simp, by simp, rfl, rfl⟩ (run trivial) (run trivial) ?_
    rintro ⟨⟨acc, i, b⟩, w⟩ ⟨h1, h2, h5, h3, h4⟩
    dsimp only at h1 h2 h3 h4 h5 ⊢
    by_cases hgo : x0.drop i ≠ [] ∧ b = false
    · obtain ⟨hne, rfl⟩ := hgo
      rw [Ms.repA_go (Ms.filtD_eats n) hne] at h3 h4
      dsimp only at h3 h4
      have h2 := h2 rfl
      have hi := Ms.drop_ne.1 hne
      obtain ⟨i', k1, k2, c3⟩ := IH x0 i false (by omega) h1
      rw [← hdp] at c3
      have hea := Ms.filtD_eats n (x0.drop i)
      have hlen := Ms.filtD_len n (x0.drop i) false
      rw [← k2] at h3 h4 hea hlen
      clear k2
      generalize Ms.filtD n (x0.drop i) false = z at c3 hea hlen h3 h4
      rw [List.length_drop, List.length_drop] at hea hlen
      refine run ?_
      intro v' _
      refine HX.roundX ((acc ++ [z.1], i', z.2.2), v') ⟨⟨by dsimp only; omega, fun hz => by have := hea hz; simp only [List.length_append, List.length_singleton]; omega, by simp only [List.length_append, List.length_singleton]; omega, by dsimp only; rw [List.append_assoc]; exact h3, h4⟩, ?_⟩ rfl (run trivial) (run trivial)
      dsimp only
      split
      · simp; omega
      · rename_i hz
        have := hea (by simpa using hz)
        simp; omega
    · have hend := Ms.repA_end (step := Ms.filtD n) hgo
      rw [hend] at h3 h4
      rw [List.append_nil] at h3
      dsimp only at h4
      rw [← h3, ← h4]
      have c3 := fun g g2 => rdEnd g g2 l x0 a1 i pb b (by omega) h1
      refine run ?_
      intros
      rename_i hh
      exact absurd ⟨Ms.drop_ne.2 (by omega), hh.1⟩ hgo

end Go.Proofs.YtkpghepeagafoaaGreat
set_option linter.unusedVariables false
set_option maxRecDepth 8000
set_option linter.unusedVariables false
namespace Go.Proofs.YtkpghepeagafoaaGreat
open Go.Vk
attribute [local irreducible] HT HX RegS RegA RegM OpP OpC AltT
attribute [local irreducible] Ber.tagB Ber.lenB Ber.intB Ber.allE Ber.fromIntB Ber.nextB Ms.midB Ms.filtD Ms.subsM
set_option maxHeartbeats 4000000 in
theorem rdFiltP (n : Nat) (hn : n + 1 ≤ 16) (l : List Ms.It) (a : Nat) (bad : Bool) (hl : Ms.wI l ≤ 100000000) (ha : a ≤ l.length) (t : UInt8) (ht : Ms.peekI (l.drop a) bad = t) (k : Int) (hk : ((t = 163 ∨ t = 165 ∨ t = 166) ∧ k = (t.toNat : Int) - 160) ∨ (t = 168 ∧ k = 3)) : ∃ a', a' ≤ l.length ∧ l.drop a' = (Ms.innM false t Ms.pairK (l.drop a) bad).2.1 ∧ ∀ g, CallsC Tryz.prog 82 [Is (pAt g 0), okI .i64 (17 - ((n + 1 : Nat) : Int))] [RX25 g l a bad] (fun _ => TAgg (Fi.cF (.mk k (Ms.innM false t Ms.pairK (l.drop a) bad).1.1 (Ms.innM false t Ms.pairK (l.drop a) bad).1.2 [] []))) (fun _ => [RX25 g l a' (Ms.innM false t Ms.pairK (l.drop a) bad).2.2]) := by
  obtain ⟨a1, h1, h2, c2⟩ := rdPair l a bad t k hl ha
  refine ⟨a1, h1, h2, fun g => ?_⟩
  have c1 := rdPeek g l a bad hl ha
  rw [ht] at c1
  clear h2 ht
  generalize Ms.innM false t Ms.pairK (l.drop a) bad = z at c2 ⊢
  rw [Fi.cF_open] at c2 ⊢
  dsimp only [Fi.Fil.kind, Fi.Fil.typ, Fi.Fil.val, Fi.Fil.subs, Fi.Fil.kids] at c2 ⊢
  have hp : ((t.toNat : Int) = 163 ∨ (t.toNat : Int) = 165 ∨ (t.toNat : Int) = 166) ∧ k = (t.toNat : Int) - 160 ∨ (t.toNat : Int) = 168 ∧ k = 3 := by
    rcases hk with ⟨rfl | rfl | rfl, h⟩ | ⟨rfl, h⟩
    · exact .inl ⟨.inl rfl, h⟩
    · exact .inl ⟨.inr (.inl rfl), h⟩
    · exact .inl ⟨.inr (.inr rfl), h⟩
    · exact .inr ⟨rfl, h⟩
  clear hk
  generalize (t.toNat : Int) = p at c1 c2 hp ⊢
  rcases hp with ⟨hp, rfl⟩ | ⟨hp, rfl⟩
  · refine CallsC.of Tryz.call82 Tryz.func82 rfl Tryz.ntmps82 rfl fun w0 G0 S0 hs ho => ?_
    exact run trivial
  · refine CallsC.of Tryz.call82 Tryz.func82 rfl Tryz.ntmps82 rfl fun w0 G0 S0 hs ho => ?_
    exact run trivial
set_option maxHeartbeats 4000000 in
theorem rdFiltL (n : Nat) (hn : n + 1 ≤ 16) (l : List Ms.It) (a : Nat) (bad : Bool) (hl : Ms.wI l ≤ 100000000) (ha : a ≤ l.length) (ht : Ms.peekI (l.drop a) bad = 164) : ∃ a', a' ≤ l.length ∧ l.drop a' = (Ms.innM false 164 (Ms.leafK false) (l.drop a) bad).2.1 ∧ ∀ g, CallsC Tryz.prog 82 [Is (pAt g 0), okI .i64 (17 - ((n + 1 : Nat) : Int))] [RX25 g l a bad] (fun _ => TAgg (Fi.cF (.mk 4 (Ms.innM false 164 (Ms.leafK false) (l.drop a) bad).1.1 [] (Ms.innM false 164 (Ms.leafK false) (l.drop a) bad).1.2 []))) (fun _ => [RX25 g l a' (Ms.innM false 164 (Ms.leafK false) (l.drop a) bad).2.2]) := by
  obtain ⟨a1, h1, h2, c2⟩ := rdInner l a bad 164 hl ha
  refine ⟨a1, h1, h2, fun g => ?_⟩
  have c1 := rdPeek g l a bad hl ha
  rw [ht] at c1
  have c1' : CallsC Tryz.prog 30 [Is (pAt g 0)] [RX25 g l a bad] (fun _ => okI .u8 164) (fun _ => [RX25 g l a bad]) := c1
  have hw2 := Ms.inner_w (l.drop a) bad 164
  have hw3 := Ms.wI_drop l a
  unfold Ms.innM Ms.leafK
  dsimp only [Ms.xbM]
  rw [Fi.cF_open]
  dsimp only [Fi.Fil.kind, Fi.Fil.typ, Fi.Fil.val, Fi.Fil.subs, Fi.Fil.kids]
  clear h2 ht c1
  generalize Ms.takeI (l.drop a) bad 164 = y at c2 hw2 ⊢
  generalize hpb : Ms.pbM false y = pb at c2 ⊢
  generalize hx : Ms.allI y.1 = x0 at c2 hw2 ⊢
  generalize hb : Ms.badI y.1 = b0 at c2 ⊢
  have e : ∀ x b, Ms.textI x b = Ms.takeI x b 4 := fun _ _ => rfl
  rw [e]
  obtain ⟨i1, k1, k2, c3⟩ := rdBody x0 0 b0 4 (by omega) (Nat.zero_le _)
  rw [List.drop_zero] at k2 c3
  generalize Ms.takeI x0 b0 4 = p at c3 k2 ⊢
  obtain ⟨i2, k3, k4, c4⟩ := rdSubs x0 i1 p.2.2 (by omega) k1
  rw [k2] at k4 c4
  generalize Ms.subsM false p.2.1 p.2.2 = q at c4 k4 ⊢
  have c5 := fun g g2 => rdEnd g g2 l x0 a1 i2 pb q.2.2 (by omega) k3
  rw [k4] at c5
  have d2 : ∀ g, CallsC Tryz.prog 54 [Is (pAt g 0), okI .u8 164] [RX25 g l a bad] (fun v => Is (pAt (blk v) 0)) (fun v => [RX25 g l a1 pb, RX25 (blk v) x0 0 b0]) := c2
  have d3 : ∀ g, CallsC Tryz.prog 31 [Is (pAt g 0), okI .u8 4] [RX25 g x0 0 b0] (fun _ => TBytes p.1) (fun _ => [RX25 g x0 i1 p.2.2]) := c3
  clear c2 c3 k2 k4 e
  refine CallsC.of Tryz.call82 Tryz.func82 rfl Tryz.ntmps82 rfl fun w0 G0 S0 hs ho => ?_
  exact run trivial
set_option maxHeartbeats 4000000 in
theorem rdFiltB (n : Nat) (hn : n + 1 ≤ 16) (l : List Ms.It) (a : Nat) (bad : Bool) (hl : Ms.wI l ≤ 100000000) (ha : a ≤ l.length) (t : UInt8) (ht : Ms.peekI (l.drop a) bad = t) (h0 : t ≠ 160) (h1 : t ≠ 161) (h2 : t ≠ 162) (h3 : t ≠ 163) (h4 : t ≠ 164) (h5 : t ≠ 165) (h6 : t ≠ 166) (h8 : t ≠ 168) : ∃ a', a' ≤ l.length ∧ l.drop a' = (Ms.takeI (l.drop a) bad 135).2.1 ∧ ∀ g, CallsC Tryz.prog 82 [Is (pAt g 0), okI .i64 (17 - ((n + 1 : Nat) : Int))] [RX25 g l a bad] (fun _ => TAgg (Fi.cF (.mk 7 (Ms.takeI (l.drop a) bad 135).1 [] [] []))) (fun _ => [RX25 g l a' (Ms.takeI (l.drop a) bad 135).2.2]) := by
  obtain ⟨a1, k1, k2, c2⟩ := rdBody l a bad 135 hl ha
  refine ⟨a1, k1, k2, fun g => ?_⟩
  have c1 := rdPeek g l a bad hl ha
  rw [ht] at c1
  rw [Fi.cF_open]
  dsimp only [Fi.Fil.kind, Fi.Fil.typ, Fi.Fil.val, Fi.Fil.subs, Fi.Fil.kids]
  generalize Ms.takeI (l.drop a) bad 135 = y at c2 ⊢
  have d2 : ∀ g, CallsC Tryz.prog 31 [Is (pAt g 0), okI .u8 135] [RX25 g l a bad] (fun _ => TBytes y.1) (fun _ => [RX25 g l a1 y.2.2]) := c2
  have v0 := Ms.peek_v (n := 160) (by decide) h0
  have v1 := Ms.peek_v (n := 161) (by decide) h1
  have v2 := Ms.peek_v (n := 162) (by decide) h2
  have v3 := Ms.peek_v (n := 163) (by decide) h3
  have v4 := Ms.peek_v (n := 164) (by decide) h4
  have v5 := Ms.peek_v (n := 165) (by decide) h5
  have v6 := Ms.peek_v (n := 166) (by decide) h6
  have v8 := Ms.peek_v (n := 168) (by decide) h8
  clear c2 k2 ht
  generalize (t.toNat : Int) = p at c1 v0 v1 v2 v3 v4 v5 v6 v8
  refine CallsC.of Tryz.call82 Tryz.func82 rfl Tryz.ntmps82 rfl fun w0 G0 S0 hs ho => ?_
  exact run trivial
theorem rdFilter : ∀ n : Nat, n ≤ 16 → FiltDC n
  | 0, _ => rdFilt0
  | n + 1, hn => by
    have IH := rdFilter n (by omega)
    intro l a bad hl ha
    rw [Ms.filtD_S]
    dsimp only
    generalize ht : Ms.peekI (l.drop a) bad = t
    by_cases hk : t = 160 ∨ t = 161 ∨ t = 162
    · rw [if_pos hk]; exact rdFiltK n hn IH l a bad hl ha t ht hk
    rw [if_neg hk]
    by_cases hp : t = 163 ∨ t = 165 ∨ t = 166
    · rw [if_pos hp]; exact rdFiltP n hn l a bad hl ha t ht _ (.inl ⟨hp, rfl⟩)
    rw [if_neg hp]
    by_cases h8 : t = 168
    · rw [if_pos h8]; exact rdFiltP n hn l a bad hl ha t ht _ (.inr ⟨h8, rfl⟩)
    rw [if_neg h8]
    by_cases h4 : t = 164
    · rw [if_pos h4]; subst h4; exact rdFiltL n hn l a bad hl ha ht
    rw [if_neg h4]
    exact rdFiltB n hn l a bad hl ha t ht (fun h => hk (.inl h)) (fun h => hk (.inr (.inl h))) (fun h => hk (.inr (.inr h))) (fun h => hp (.inl h)) h4 (fun h => hp (.inr (.inl h))) (fun h => hp (.inr (.inr h))) h8
end Go.Proofs.YtkpghepeagafoaaGreat
