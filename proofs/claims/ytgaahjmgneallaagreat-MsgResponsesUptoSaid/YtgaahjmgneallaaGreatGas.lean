/-
  Requests out of items: the plain functions that the program's readers compute.
  The contracts of the program's readers: texts, attr, attrs, mods, pieces.
  The contract of the program's reader of pieces.
  The program's readers and the document's: where one is good, so is the other, and they read the same. Nothing here speaks of a program.
  Filters, operations, requests out of items: the plain functions of the program's readers and the document's; they agree. Nothing here speaks of a program.
-/
import Derived.Test.YtgaahjmgneallaaGreatGar
set_option linter.unusedSimpArgs false
set_option linter.unusedVariables false
set_option linter.unusedVariables false
namespace Go.Ms
open Go.Vk
open Go.Fi (Fil)
abbrev It := Ber.It
def wIt (x : It) : Nat := x.2.length + 2
/-- How much some items hold. -/
def wI (l : List It) : Nat := sm wIt l
theorem wI_len (l : List It) : l.length ≤ wI l := sm_len (fun a => by unfold wIt; omega) l
theorem wI_cons (x : It) (l : List It) : wI (x :: l) = x.2.length + 2 + wI l := by simp [wI, sm, wIt]
theorem wI_nil : wI [] = 0 := rfl
theorem wI_app (l m : List It) : wI (l ++ m) = wI l + wI m := by unfold wI sm; rw [List.map_append, List.sum_append]
theorem next_w (b : List UInt8) (h : (Ber.nextB b).e = 0) : (Ber.nextB b).body.length + (Ber.nextB b).rest.length + 2 ≤ b.length := by
  have h1 := Ber.headB_ok b
  unfold Ber.nextB at h ⊢
  dsimp only at h ⊢
  by_cases h2 : (Ber.headB b).2.2 ≠ 0
  · rw [if_pos h2] at h; exact absurd h h2
  rw [if_neg h2] at h ⊢
  by_cases h3 : 65536 < (Ber.headB b).2.1
  · rw [if_pos h3] at h; cases h
  rw [if_neg h3] at h ⊢
  by_cases h4 : (b.length : Int) - (Ber.headB b).1 < (Ber.headB b).2.1
  · rw [if_pos h4] at h; cases h
  rw [if_neg h4]
  have h5 := h1.2.2.2.2 (Decidable.not_not.1 h2)
  simp only [List.length_drop, List.length_take]
  omega
theorem allE_w : ∀ (k : Nat) (b : List UInt8) (l : List It), wI (Ber.allE k b l).1 ≤ wI l + b.length
  | 0, b, l => by show wI l ≤ _; omega
  | k + 1, b, l => by
    by_cases h0 : b.length = 0
    · rw [Ber.allE_end h0]; dsimp only; omega
    by_cases h1 : (Ber.nextB b).e = 0
    · rw [Ber.allE_go h0 h1]
      have h2 := allE_w k (Ber.nextB b).rest (l ++ [((Ber.nextB b).tag, (Ber.nextB b).body)])
      have h3 := next_w b h1
      rw [wI_app, wI_cons, wI_nil] at h2
      dsimp only at h2
      omega
    · rw [Ber.allE_bad h0 h1]; dsimp only; rw [wI_nil]; omega
/-- A body's items; whether they are none. -/
def allI (b : List UInt8) : List It := (Ber.allE b.length b []).1
def badI (b : List UInt8) : Bool := decide ((Ber.allE b.length b []).2 ≠ 0)
theorem allI_w (b : List UInt8) : wI (allI b) ≤ b.length := by
  have := allE_w b.length b []
  rw [wI_nil] at this
  unfold allI; omega
theorem takeI_w (l : List It) (bad : Bool) (t : UInt8) : wI (takeI l bad t).2.1 + (takeI l bad t).1.length ≤ wI l := by
  cases h : isI l bad t with
  | true =>
    obtain ⟨_, x, r, rfl, _, e⟩ := takeI_is h
    rw [e, wI_cons]; dsimp only; omega
  | false =>
    rw [takeI_no h]
    show wI l + 0 ≤ _; omega
theorem takeI_bad (l : List It) (t : UInt8) : takeI l true t = ([], l, true) := takeI_no (by cases l <;> rfl)
theorem takeI_lt {l : List It} {bad : Bool} {t : UInt8} (h : (takeI l bad t).2.2 = false) : bad = false ∧ (takeI l bad t).2.1.length < l.length := by
  cases hh : isI l bad t with
  | true =>
    obtain ⟨h1, x, r, rfl, h2, e⟩ := takeI_is hh
    rw [e]
    exact ⟨h1, by simp⟩
  | false => rw [takeI_no hh] at h; cases h
/-- Values one behind the other, until nothing is left or something is bad. -/
def rep {α : Type} (step : List It → Bool → α × List It × Bool) : Nat → List It → Bool → List α × List It × Bool
  | 0, l, bad => ([], l, bad)
  | n + 1, l, bad => if l ≠ [] ∧ bad = false then let y := step l bad; let z := rep step n y.2.1 y.2.2; (y.1 :: z.1, z.2) else ([], l, bad)
def repA {α : Type} (step : List It → Bool → α × List It × Bool) (l : List It) (bad : Bool) : List α × List It × Bool := rep step (l.length + 1) l bad
/-- Each step eats, or is bad. -/
def Eats {α : Type} (step : List It → Bool → α × List It × Bool) : Prop := ∀ l, (step l false).2.2 = false → (step l false).2.1.length < l.length
section
variable {α : Type} {step : List It → Bool → α × List It × Bool}
theorem rep_fuel (hs : Eats step) : ∀ (n m : Nat) (l : List It) (bad : Bool), l.length < n → l.length < m → rep step n l bad = rep step m l bad
  | 0, m, l, bad, h, _ => by omega
  | n + 1, 0, l, bad, _, h => by omega
  | n + 1, m + 1, l, bad, h1, h2 => by
    unfold rep
    split
    · rename_i hc
      obtain ⟨hc1, rfl⟩ := hc
      dsimp only
      cases hb : (step l false).2.2 with
      | false =>
        have := hs l hb
        rw [rep_fuel hs n m _ _ (by omega) (by omega)]
      | true =>
        have e : ∀ k (l' : List It), rep step k l' true = ([], l', true) := fun k l' => by
          cases k with
          | zero => rfl
          | succ k => unfold rep; rw [if_neg (by simp)]
        rw [e, e]
    · rfl
theorem repA_bad (l : List It) : repA step l true = ([], l, true) := by
  unfold repA rep; rw [if_neg (by simp)]
theorem repA_nil (bad : Bool) : repA step [] bad = ([], [], bad) := by
  unfold repA rep; rw [if_neg (by simp)]
theorem repA_go (hs : Eats step) {l : List It} (h : l ≠ []) : repA step l false = ((step l false).1 :: (repA step (step l false).2.1 (step l false).2.2).1, (repA step (step l false).2.1 (step l false).2.2).2) := by
  have e : repA step l false = ((step l false).1 :: (rep step l.length (step l false).2.1 (step l false).2.2).1, (rep step l.length (step l false).2.1 (step l false).2.2).2) := by
    unfold repA
    conv => lhs; unfold rep
    rw [if_pos ⟨h, rfl⟩]
  rw [e]
  cases hb : (step l false).2.2 with
  | false =>
    have h1 := hs l hb
    have h2 : rep step l.length (step l false).2.1 false = repA step (step l false).2.1 false := rep_fuel hs _ _ _ _ (by omega) (by omega)
    rw [h2]
  | true =>
    rw [repA_bad]
    have e : ∀ k (l' : List It), rep step k l' true = ([], l', true) := fun k l' => by
      cases k with
      | zero => rfl
      | succ k => unfold rep; rw [if_neg (by simp)]
    rw [e]
end
/-! ### the readers; m: the program's, else the document's -/
def textI (l : List It) (bad : Bool) : List UInt8 × List It × Bool := takeI l bad 4
def fromB (b : List UInt8) : Bool × Int := (decide (b.length = 1) && decide ((b.getD 0 0).toNat ≠ 0), if b.length = 1 then 0 else 3)
def truthI (l : List It) (bad : Bool) : Bool × List It × Bool := ((fromB (takeI l bad 1).1).1, (takeI l bad 1).2.1, (takeI l bad 1).2.2 || decide ((fromB (takeI l bad 1).1).2 ≠ 0))
/-- A number within bounds. -/
def numR (l : List It) (bad : Bool) (t : UInt8) (lo hi : Int) : Int × List It × Bool := ((numI l bad t).1, (numI l bad t).2.1, (numI l bad t).2.2 || (decide ((numI l bad t).1 < lo) || decide (hi < (numI l bad t).1)))
/-- Is an inner item's own reader bad from its start? Is the outer one bad then? -/
def xbM (m : Bool) (y : List UInt8 × List It × Bool) : Bool := match m with | true => badI y.1 || y.2.2 | false => badI y.1
def pbM (m : Bool) (y : List UInt8 × List It × Bool) : Bool := match m with | true => y.2.2 | false => y.2.2 || badI y.1
/-- What is bad when an inner item's reader ends. -/
def endI (bad bad2 : Bool) (l2 : List It) : Bool := bad || bad2 || decide (l2 ≠ [])
/-- An item's own items, read to their end. -/
def innM {α : Type} (m : Bool) (t : UInt8) (k : List It → Bool → α × List It × Bool) (l : List It) (bad : Bool) : α × List It × Bool :=
  let y := takeI l bad t
  let z := k (allI y.1) (xbM m y)
  (z.1, y.2.1, endI (pbM m y) z.2.2 z.2.1)
def textsM (m : Bool) (t : UInt8) : List It → Bool → List (List UInt8) × List It × Bool := innM m t (repA textI)
def attK (m : Bool) (l : List It) (bad : Bool) : (List UInt8 × List (List UInt8)) × List It × Bool :=
  let a := textI l bad
  let v := textsM m 49 a.2.1 a.2.2
  ((a.1, v.1), v.2)
def attM (m : Bool) : List It → Bool → (List UInt8 × List (List UInt8)) × List It × Bool := innM m 48 (attK m)
def attrM (m : Bool) (l : List It) (bad : Bool) : En.Attr × List It × Bool := let y := attM m l bad; (⟨y.1.1, y.1.2⟩, y.2)
def attrsM (m : Bool) : List It → Bool → List En.Attr × List It × Bool := innM m 48 (repA (attrM m))
def kindM (m : Bool) (l : List It) (bad : Bool) : Int × List It × Bool := match m with | true => numI l bad 10 | false => numR l bad 10 0 2
def modK (m : Bool) (l : List It) (bad : Bool) : Mod × List It × Bool :=
  let k := kindM m l bad
  let a := attM m k.2.1 k.2.2
  (⟨k.1, a.1.1, a.1.2⟩, a.2)
def modM (m : Bool) : List It → Bool → Mod × List It × Bool := innM m 48 (modK m)
def modsM (m : Bool) : List It → Bool → List Mod × List It × Bool := innM m 48 (repA (modM m))
/-- The middle pieces. -/
def midI : List It → List (List UInt8) × List It
  | [] => ([], [])
  | x :: r => if x.1 = 129 then (x.2 :: (midI r).1, (midI r).2) else ([], x :: r)
/-- A piece that may be there. -/
def mayI (l : List It) (bad : Bool) (t : UInt8) : List UInt8 × List It × Bool := if isI l bad t = true then takeI l bad t else ([], l, bad)
def subsK (l : List It) (bad : Bool) : List (List UInt8) × List It × Bool :=
  let f := mayI l bad 128
  let m := if f.2.2 = true then ([], f.2.1) else midI f.2.1
  let e := mayI m.2 f.2.2 130
  (f.1 :: (m.1 ++ [e.1]), e.2)
def subsM (m : Bool) : List It → Bool → List (List UInt8) × List It × Bool := innM m 48 subsK
theorem textI_eats : Eats textI := fun l h => (takeI_lt h).2
theorem endI_f {a b : Bool} {l : List It} (h : endI a b l = false) : a = false ∧ b = false ∧ l = [] := by
  unfold endI at h
  simpa [and_assoc] using h
theorem pbM_f {m : Bool} {y : List UInt8 × List It × Bool} (h : pbM m y = false) : y.2.2 = false := by
  cases m with
  | true => exact h
  | false => unfold pbM at h; simp only [Bool.or_eq_false_iff] at h; exact h.1
theorem innM_eats {α : Type} (m : Bool) (t : UInt8) (k : List It → Bool → α × List It × Bool) : Eats (innM m t k) := fun l h => (takeI_lt (pbM_f (endI_f h).1)).2
theorem attrM_eats (m : Bool) : Eats (attrM m) := fun l h => innM_eats m 48 (attK m) l h
theorem modM_eats (m : Bool) : Eats (modM m) := innM_eats m 48 (modK m)
theorem midI_w : ∀ l : List It, wI (midI l).2 ≤ wI l ∧ (midI l).1.length + (midI l).2.length = l.length
  | [] => by simp [midI]
  | x :: r => by
    have h := midI_w r
    unfold midI
    split
    · rw [wI_cons]; dsimp only; rw [List.length_cons, List.length_cons]; omega
    · simp
theorem midI_go {x : It} {r : List It} (h : x.1 = 129) : midI (x :: r) = (x.2 :: (midI r).1, (midI r).2) := by
  conv => lhs; unfold midI
  rw [if_pos h]
theorem midI_end {l : List It} (h : isI l false 129 = false) : midI l = ([], l) := by
  cases l with
  | nil => rfl
  | cons x r =>
    unfold midI
    rw [if_neg]
    intro hx
    have h' : (!false && decide (x.1 = 129)) = false := h
    rw [decide_eq_true hx] at h'
    exact absurd h' (by simp)
end Go.Ms
set_option maxRecDepth 8000
set_option linter.unusedVariables false
namespace Go.Proofs.YtgaahjmgneallaaGreat
open Go.Vk
attribute [local irreducible] HT HX RegS RegA RegM OpP OpC AltT
attribute [local irreducible] Ber.tagB Ber.lenB Ber.intB Ber.allE Ber.fromIntB Ber.nextB
theorem miInner (g : Nat) (l : List Ms.It) (bad : Bool) (t : UInt8) (hl : Ms.wI l ≤ 100000000) : CallsC Tryz.prog 77 [Is (pAt g 0), okI .u8 (t.toNat : Int)] [IX g l bad] (fun v => Is (pAt (blk v) 0)) (fun v => [IX g (Ms.takeI l bad t).2.1 (Ms.takeI l bad t).2.2, IX (blk v) (Ms.allI (Ms.takeI l bad t).1) (Ms.badI (Ms.takeI l bad t).1 || (Ms.takeI l bad t).2.2)]) := by
  have hle := Ms.wI_len l
  have c1 := miTake g l bad t (by omega)
  have hw := Ms.takeI_w l bad t
  have c2 : CallsC Tryz.prog 38 [TBytes (Ms.takeI l bad t).1] [] (fun v => Is (pAt (blk v) 0)) (fun v => [IX (blk v) (Ms.allI (Ms.takeI l bad t).1) (Ms.badI (Ms.takeI l bad t).1)]) := miApart (Ms.takeI l bad t).1 (by omega)
  generalize Ms.takeI l bad t = y at c1 c2 hw ⊢
  refine CallsC.of Tryz.call77 Tryz.func77 rfl Tryz.ntmps77 rfl fun w0 G0 S0 hs ho => ?_
  exact run trivial
theorem miEnds (g g2 : Nat) (l l2 : List Ms.It) (bad bad2 : Bool) (hl : Ms.wI l2 ≤ 100000000) : CallsC Tryz.prog 86 [Is (pAt g 0), Is (pAt g2 0)] [IX g l bad, IX g2 l2 bad2] (fun _ => TTup []) (fun _ => [IX g l (Ms.endI bad bad2 l2), IX g2 l2 bad2]) := by
  have hle := Ms.wI_len l2
  unfold Ms.endI
  refine CallsC.of Tryz.call86 Tryz.func86 rfl Tryz.ntmps86 rfl fun w0 G0 S0 hs ho => ?_
  refine run ?_
  congr 1
  rw [decide_eq_decide, ne_eq, ← List.length_eq_zero_iff]
  omega
theorem miText (g : Nat) (l : List Ms.It) (bad : Bool) (hl : Ms.wI l ≤ 100000000) : CallsC Tryz.prog 78 [Is (pAt g 0)] [IX g l bad] (fun _ => Is (str (Ms.textI l bad).1)) (fun _ => [IX g (Ms.textI l bad).2.1 (Ms.textI l bad).2.2]) := by
  have hle := Ms.wI_len l
  have c1 : CallsC Tryz.prog 51 [Is (pAt g 0), okI .u8 4] [IX g l bad] (fun _ => TBytes (Ms.textI l bad).1) (fun _ => [IX g (Ms.textI l bad).2.1 (Ms.textI l bad).2.2]) := miTake g l bad 4 (by omega)
  generalize Ms.textI l bad = y at c1 ⊢
  refine CallsC.of Tryz.call78 Tryz.func78 rfl Tryz.ntmps78 rfl fun w0 G0 S0 hs ho => ?_
  exact run trivial
theorem miTruth (g : Nat) (l : List Ms.It) (bad : Bool) (hl : Ms.wI l ≤ 100000000) : CallsC Tryz.prog 117 [Is (pAt g 0)] [IX g l bad] (fun _ => Is (.bool (Ms.truthI l bad).1)) (fun _ => [IX g (Ms.truthI l bad).2.1 (Ms.truthI l bad).2.2]) := by
  have hle := Ms.wI_len l
  have c1 : CallsC Tryz.prog 51 [Is (pAt g 0), okI .u8 1] [IX g l bad] (fun _ => TBytes (Ms.takeI l bad 1).1) (fun _ => [IX g (Ms.takeI l bad 1).2.1 (Ms.takeI l bad 1).2.2]) := miTake g l bad 1 (by omega)
  have c2 : CFn Tryz.prog 135 [TBytes (Ms.takeI l bad 1).1] (TTup [Is (.bool (Ms.fromB (Ms.takeI l bad 1).1).1), okI .i64 (Ms.fromB (Ms.takeI l bad 1).1).2]) := fromBool _
  unfold Ms.truthI
  generalize Ms.takeI l bad 1 = y at c1 c2 ⊢
  generalize Ms.fromB y.1 = z at c2 ⊢
  refine CallsC.of Tryz.call117 Tryz.func117 rfl Tryz.ntmps117 rfl fun w0 G0 S0 hs ho => ?_
  exact run trivial
end Go.Proofs.YtgaahjmgneallaaGreat
set_option linter.unusedVariables false
namespace Go.Ms
open Go.Vk
theorem rep_w {α : Type} {step : List It → Bool → α × List It × Bool} (hs : ∀ l b, wI (step l b).2.1 ≤ wI l) : ∀ (n : Nat) (l : List It) (bad : Bool), wI (rep step n l bad).2.1 ≤ wI l
  | 0, l, bad => Nat.le_refl _
  | n + 1, l, bad => by
    unfold rep
    split
    · exact Nat.le_trans (rep_w hs n _ _) (hs l bad)
    · exact Nat.le_refl _
theorem textI_w (l : List It) (bad : Bool) : wI (textI l bad).2.1 ≤ wI l := by
  have := takeI_w l bad 4
  unfold textI; omega
theorem take1_w (l : List It) (bad : Bool) (t : UInt8) : wI (takeI l bad t).2.1 ≤ wI l := by
  have := takeI_w l bad t
  omega
theorem inner_w (l : List It) (bad : Bool) (t : UInt8) : wI (allI (takeI l bad t).1) ≤ wI l := by
  have h1 := takeI_w l bad t
  have h2 := allI_w (takeI l bad t).1
  omega
theorem innM_w {α : Type} (m : Bool) (t : UInt8) (k : List It → Bool → α × List It × Bool) (l : List It) (bad : Bool) : wI (innM m t k l bad).2.1 ≤ wI l := take1_w l bad t
theorem numI_w (l : List It) (bad : Bool) (t : UInt8) : wI (numI l bad t).2.1 ≤ wI l := take1_w l bad t
theorem truthI_w (l : List It) (bad : Bool) : wI (truthI l bad).2.1 ≤ wI l := take1_w l bad 1
theorem repA_len {α : Type} {step : List It → Bool → α × List It × Bool} : ∀ (n : Nat) (l : List It) (bad : Bool), (rep step n l bad).1.length ≤ n
  | 0, l, bad => Nat.le_refl _
  | n + 1, l, bad => by
    unfold rep
    split
    · have := repA_len (step := step) n (step l bad).2.1 (step l bad).2.2
      dsimp only; rw [List.length_cons]; omega
    · exact Nat.zero_le _
theorem takeI_len (l : List It) (bad : Bool) (t : UInt8) : (takeI l bad t).2.1.length ≤ l.length := by
  cases h : isI l bad t with
  | true =>
    obtain ⟨_, x, r, rfl, _, e⟩ := takeI_is h
    rw [e]; simp
  | false => rw [takeI_no h]; exact Nat.le_refl _
theorem repA_end {α : Type} {step : List It → Bool → α × List It × Bool} {x : List It} {b : Bool} (h : ¬ (x ≠ [] ∧ b = false)) : repA step x b = ([], x, b) := by
  unfold repA rep; rw [if_neg h]
end Go.Ms
set_option maxRecDepth 8000
set_option linter.unusedVariables false
namespace Go.Proofs.YtgaahjmgneallaaGreat
open Go.Vk
attribute [local irreducible] HT HX RegS RegA RegM OpP OpC AltT
attribute [local irreducible] Ber.tagB Ber.lenB Ber.intB Ber.allE Ber.fromIntB Ber.nextB
set_option maxHeartbeats 1000000 in
theorem miTexts (g : Nat) (l : List Ms.It) (bad : Bool) (t : UInt8) (hl : Ms.wI l ≤ 100000000) : CallsC Tryz.prog 119 [Is (pAt g 0), okI .u8 (t.toNat : Int)] [IX g l bad] (fun _ => TSl 1 En.cS (Ms.textsM true t l bad).1) (fun _ => [IX g (Ms.textsM true t l bad).2.1 (Ms.textsM true t l bad).2.2]) := by
  have hw := Ms.take1_w l bad t
  have c1 := miInner g l bad t hl
  have hw2 := Ms.inner_w l bad t
  unfold Ms.textsM Ms.innM
  dsimp only [Ms.xbM, Ms.pbM]
  generalize Ms.takeI l bad t = y at c1 hw hw2 ⊢
  generalize hx : Ms.allI y.1 = x0 at c1 hw2 ⊢
  generalize hb : (Ms.badI y.1 || y.2.2) = b0 at c1 ⊢
  refine CallsC.of Tryz.call119 Tryz.func119 rfl Tryz.ntmps119 rfl fun w0 G0 S0 hs ho => ?_
  refine run ?_
  intro vx
  refine HT.loopX (σ := (List (List UInt8) × List Ms.It × Bool) × Value) [0, 4, 6] (fun t' => [(5, TAnd (Is t'.2) (TSl 1 En.cS t'.1.1))]) (fun t' => [IX g y.2.1 y.2.2, IX (blk vx) t'.1.2.1 t'.1.2.2, ownSl t'.2 1 9]) (fun t' => Ms.wI t'.1.2.1 ≤ Ms.wI l ∧ (t'.1.2.2 = false → t'.1.1.length + t'.1.2.1.length ≤ Ms.wI l) ∧ t'.1.1.length ≤ Ms.wI l + 1 ∧ t'.1.1 ++ (Ms.repA Ms.textI t'.1.2.1 t'.1.2.2).1 = (Ms.repA Ms.textI x0 b0).1 ∧ (Ms.repA Ms.textI t'.1.2.1 t'.1.2.2).2 = (Ms.repA Ms.textI x0 b0).2) (fun t' => t'.1.2.1.length + (if t'.1.2.2 then 0 else 1)) (([], x0, b0), .slice none 0 0) ⟨hw2, by have := Ms.wI_len x0; intro _; dsimp only [List.length_nil]; omega, by simp, rfl, rfl⟩ (run trivial) (run trivial) ?_
  clear c1 hx hb
  rintro ⟨⟨acc, x, b⟩, w⟩ ⟨h1, h2, h5, h3, h4⟩
  dsimp only at h1 h2 h3 h4 h5 ⊢
  by_cases hgo : x ≠ [] ∧ b = false
  · obtain ⟨hne, rfl⟩ := hgo
    rw [Ms.repA_go Ms.textI_eats hne] at h3 h4
    dsimp only at h3 h4
    have h2 := h2 rfl
    have c2 := fun g => miText g x false (by omega)
    have hw3 := Ms.textI_w x false
    have hea := Ms.textI_eats x
    have hlen : (Ms.textI x false).2.1.length ≤ x.length := Ms.takeI_len _ _ _
    generalize Ms.textI x false = z at c2 hw3 hea hlen h3 h4
    have hxl : 0 < x.length := List.length_pos_iff.2 hne
    refine run ?_
    intro v' _
    refine HX.roundX ((acc ++ [z.1], z.2.1, z.2.2), v') ⟨⟨by dsimp only; omega, fun hz => by have := hea hz; (try dsimp only at this); simp only [List.length_append, List.length_singleton]; omega, by simp only [List.length_append, List.length_singleton]; omega, by dsimp only; rw [List.append_assoc]; exact h3, h4⟩, ?_⟩ rfl (run trivial) (run trivial)
    dsimp only
    split
    · simp; omega
    · rename_i hz
      have := hea (by simpa using hz)
      (try dsimp only at this)
      simp; omega
  · have hend := Ms.repA_end (step := Ms.textI) hgo
    rw [hend] at h3 h4
    rw [List.append_nil] at h3
    dsimp only at h4
    rw [← h3, ← h4]
    have c2 := fun g g2 => miEnds g g2 y.2.1 x y.2.2 b (by omega)
    have hne : x = [] ↔ x.length = 0 := List.length_eq_zero_iff.symm
    refine run ?_
    intro hh
    exact absurd ⟨fun e => by rw [e] at hh; simp at hh, hh.2⟩ hgo
theorem miAttr (g : Nat) (l : List Ms.It) (bad : Bool) (hl : Ms.wI l ≤ 100000000) : CallsC Tryz.prog 115 [Is (pAt g 0)] [IX g l bad] (fun _ => TTup [Is (str (Ms.attM true l bad).1.1), TSl 1 En.cS (Ms.attM true l bad).1.2]) (fun _ => [IX g (Ms.attM true l bad).2.1 (Ms.attM true l bad).2.2]) := by
  have c1 : CallsC Tryz.prog 77 [Is (pAt g 0), okI .u8 48] [IX g l bad] (fun v => Is (pAt (blk v) 0)) (fun v => [IX g (Ms.takeI l bad 48).2.1 (Ms.takeI l bad 48).2.2, IX (blk v) (Ms.allI (Ms.takeI l bad 48).1) (Ms.badI (Ms.takeI l bad 48).1 || (Ms.takeI l bad 48).2.2)]) := miInner g l bad 48 hl
  have hw2 := Ms.inner_w l bad 48
  unfold Ms.attM Ms.innM Ms.attK
  dsimp only [Ms.xbM, Ms.pbM]
  generalize Ms.takeI l bad 48 = y at c1 hw2 ⊢
  generalize Ms.allI y.1 = x0 at c1 hw2 ⊢
  generalize (Ms.badI y.1 || y.2.2) = b0 at c1 ⊢
  have c2 := fun g => miText g x0 b0 (by omega)
  have hw3 := Ms.textI_w x0 b0
  generalize Ms.textI x0 b0 = a at c2 hw3 ⊢
  have c3 : ∀ g, CallsC Tryz.prog 119 [Is (pAt g 0), okI .u8 49] [IX g a.2.1 a.2.2] (fun _ => TSl 1 En.cS (Ms.textsM true 49 a.2.1 a.2.2).1) (fun _ => [IX g (Ms.textsM true 49 a.2.1 a.2.2).2.1 (Ms.textsM true 49 a.2.1 a.2.2).2.2]) := fun g => miTexts g a.2.1 a.2.2 49 (by omega)
  have hw4 : Ms.wI (Ms.textsM true 49 a.2.1 a.2.2).2.1 ≤ Ms.wI a.2.1 := Ms.innM_w _ _ _ _ _
  generalize Ms.textsM true 49 a.2.1 a.2.2 = v at c3 hw4 ⊢
  have c4 := fun g g2 => miEnds g g2 y.2.1 v.2.1 y.2.2 v.2.2 (by omega)
  refine CallsC.of Tryz.call115 Tryz.func115 rfl Tryz.ntmps115 rfl fun w0 G0 S0 hs ho => ?_
  exact run trivial
set_option maxHeartbeats 1000000 in
theorem miAttrs (g : Nat) (l : List Ms.It) (bad : Bool) (hl : Ms.wI l ≤ 100000000) : CallsC Tryz.prog 79 [Is (pAt g 0)] [IX g l bad] (fun _ => TSl 2 En.cAttr (Ms.attrsM true l bad).1) (fun _ => [IX g (Ms.attrsM true l bad).2.1 (Ms.attrsM true l bad).2.2]) := by
  have c1 : CallsC Tryz.prog 77 [Is (pAt g 0), okI .u8 48] [IX g l bad] (fun v => Is (pAt (blk v) 0)) (fun v => [IX g (Ms.takeI l bad 48).2.1 (Ms.takeI l bad 48).2.2, IX (blk v) (Ms.allI (Ms.takeI l bad 48).1) (Ms.badI (Ms.takeI l bad 48).1 || (Ms.takeI l bad 48).2.2)]) := miInner g l bad 48 hl
  have hw2 := Ms.inner_w l bad 48
  unfold Ms.attrsM Ms.innM
  dsimp only [Ms.xbM, Ms.pbM]
  generalize Ms.takeI l bad 48 = y at c1 hw2 ⊢
  generalize hx : Ms.allI y.1 = x0 at c1 hw2 ⊢
  generalize hb : (Ms.badI y.1 || y.2.2) = b0 at c1 ⊢
  refine CallsC.of Tryz.call79 Tryz.func79 rfl Tryz.ntmps79 rfl fun w0 G0 S0 hs ho => ?_
  refine run ?_
  intro vx
  refine HT.loopX (σ := (List En.Attr × List Ms.It × Bool) × Value) [0, 2, 4] (fun t' => [(3, TAnd (Is t'.2) (TSl 2 En.cAttr t'.1.1))]) (fun t' => [IX g y.2.1 y.2.2, IX (blk vx) t'.1.2.1 t'.1.2.2, ownSl t'.2 2 64]) (fun t' => Ms.wI t'.1.2.1 ≤ Ms.wI l ∧ (t'.1.2.2 = false → t'.1.1.length + t'.1.2.1.length ≤ Ms.wI l) ∧ t'.1.1.length ≤ Ms.wI l + 1 ∧ t'.1.1 ++ (Ms.repA (Ms.attrM true) t'.1.2.1 t'.1.2.2).1 = (Ms.repA (Ms.attrM true) x0 b0).1 ∧ (Ms.repA (Ms.attrM true) t'.1.2.1 t'.1.2.2).2 = (Ms.repA (Ms.attrM true) x0 b0).2) (fun t' => t'.1.2.1.length + (if t'.1.2.2 then 0 else 1)) (([], x0, b0), .slice none 0 0) ⟨hw2, by have := Ms.wI_len x0; intro _; dsimp only [List.length_nil]; omega, by simp, rfl, rfl⟩ (run trivial) (run trivial) ?_
  clear c1 hx hb
  rintro ⟨⟨acc, x, b⟩, w⟩ ⟨h1, h2, h5, h3, h4⟩
  dsimp only at h1 h2 h3 h4 h5 ⊢
  by_cases hgo : x ≠ [] ∧ b = false
  · obtain ⟨hne, rfl⟩ := hgo
    rw [Ms.repA_go (Ms.attrM_eats true) hne] at h3 h4
    dsimp only at h3 h4
    have h2 := h2 rfl
    have e : Ms.attrM true x false = (⟨(Ms.attM true x false).1.1, (Ms.attM true x false).1.2⟩, (Ms.attM true x false).2) := rfl
    have c2 := fun g => miAttr g x false (by omega)
    have hw3 : Ms.wI (Ms.attM true x false).2.1 ≤ Ms.wI x := Ms.innM_w _ _ _ _ _
    have hea := Ms.attrM_eats true x
    rw [e] at h3 h4 hea
    have hlen : (Ms.attM true x false).2.1.length ≤ x.length := Ms.takeI_len _ _ _
    generalize Ms.attM true x false = z at c2 hw3 hea hlen h3 h4
    have hxl : 0 < x.length := List.length_pos_iff.2 hne
    refine run ?_
    intro v' _
    refine HX.roundX ((acc ++ [⟨z.1.1, z.1.2⟩], z.2.1, z.2.2), v') ⟨⟨by dsimp only; omega, fun hz => by have := hea hz; (try dsimp only at this); simp only [List.length_append, List.length_singleton]; omega, by simp only [List.length_append, List.length_singleton]; omega, by dsimp only; rw [List.append_assoc]; exact h3, h4⟩, ?_⟩ rfl (run trivial) (run trivial)
    dsimp only
    split
    · simp; omega
    · rename_i hz
      have := hea (by simpa using hz)
      (try dsimp only at this)
      simp; omega
  · have hend := Ms.repA_end (step := Ms.attrM true) hgo
    rw [hend] at h3 h4
    rw [List.append_nil] at h3
    dsimp only at h4
    rw [← h3, ← h4]
    have c2 := fun g g2 => miEnds g g2 y.2.1 x y.2.2 b (by omega)
    have hne : x = [] ↔ x.length = 0 := List.length_eq_zero_iff.symm
    refine run ?_
    intro hh
    exact absurd ⟨fun e => by rw [e] at hh; simp at hh, hh.2⟩ hgo
set_option maxHeartbeats 2000000 in
theorem miMods (g : Nat) (l : List Ms.It) (bad : Bool) (hl : Ms.wI l ≤ 100000000) : CallsC Tryz.prog 120 [Is (pAt g 0)] [IX g l bad] (fun _ => TSl 3 Ms.cMod (Ms.modsM true l bad).1) (fun _ => [IX g (Ms.modsM true l bad).2.1 (Ms.modsM true l bad).2.2]) := by
  have c1 : CallsC Tryz.prog 77 [Is (pAt g 0), okI .u8 48] [IX g l bad] (fun v => Is (pAt (blk v) 0)) (fun v => [IX g (Ms.takeI l bad 48).2.1 (Ms.takeI l bad 48).2.2, IX (blk v) (Ms.allI (Ms.takeI l bad 48).1) (Ms.badI (Ms.takeI l bad 48).1 || (Ms.takeI l bad 48).2.2)]) := miInner g l bad 48 hl
  have hw2 := Ms.inner_w l bad 48
  unfold Ms.modsM
  conv => enter [6, v]; unfold Ms.innM
  conv => enter [5, v]; unfold Ms.innM
  dsimp only [Ms.xbM, Ms.pbM]
  generalize Ms.takeI l bad 48 = y at c1 hw2 ⊢
  generalize hx : Ms.allI y.1 = x0 at c1 hw2 ⊢
  generalize hb : (Ms.badI y.1 || y.2.2) = b0 at c1 ⊢
  refine CallsC.of Tryz.call120 Tryz.func120 rfl Tryz.ntmps120 rfl fun w0 G0 S0 hs ho => ?_
  refine run ?_
  intro vx
  refine HT.loopX (σ := (List Ms.Mod × List Ms.It × Bool) × Value) [0, 2, 4] (fun t' => [(3, TAnd (Is t'.2) (TSl 3 Ms.cMod t'.1.1))]) (fun t' => [IX g y.2.1 y.2.2, IX (blk vx) t'.1.2.1 t'.1.2.2, ownSl t'.2 3 103]) (fun t' => Ms.wI t'.1.2.1 ≤ Ms.wI l ∧ (t'.1.2.2 = false → t'.1.1.length + t'.1.2.1.length ≤ Ms.wI l) ∧ t'.1.1.length ≤ Ms.wI l + 1 ∧ t'.1.1 ++ (Ms.repA (Ms.modM true) t'.1.2.1 t'.1.2.2).1 = (Ms.repA (Ms.modM true) x0 b0).1 ∧ (Ms.repA (Ms.modM true) t'.1.2.1 t'.1.2.2).2 = (Ms.repA (Ms.modM true) x0 b0).2) (fun t' => t'.1.2.1.length + (if t'.1.2.2 then 0 else 1)) (([], x0, b0), .slice none 0 0) ⟨hw2, by have := Ms.wI_len x0; intro _; dsimp only [List.length_nil]; omega, by simp, rfl, rfl⟩ (run trivial) (run trivial) ?_
  clear c1 hx hb
  rintro ⟨⟨acc, x, b⟩, w⟩ ⟨h1, h2, h5, h3, h4⟩
  dsimp only at h1 h2 h3 h4 h5 ⊢
  by_cases hgo : x ≠ [] ∧ b = false
  · obtain ⟨hne, rfl⟩ := hgo
    rw [Ms.repA_go (Ms.modM_eats true) hne] at h3 h4
    dsimp only at h3 h4
    have h2 := h2 rfl
    have c2 : ∀ g, CallsC Tryz.prog 77 [Is (pAt g 0), okI .u8 48] [IX g x false] (fun v => Is (pAt (blk v) 0)) (fun v => [IX g (Ms.takeI x false 48).2.1 (Ms.takeI x false 48).2.2, IX (blk v) (Ms.allI (Ms.takeI x false 48).1) (Ms.badI (Ms.takeI x false 48).1 || (Ms.takeI x false 48).2.2)]) := fun g => miInner g x false 48 (by omega)
    have hea := Ms.modM_eats true x
    have hw3 : Ms.wI (Ms.modM true x false).2.1 ≤ Ms.wI x := Ms.innM_w _ _ _ _ _
    have hlen : (Ms.modM true x false).2.1.length ≤ x.length := Ms.takeI_len _ _ _
    have e : Ms.modM true x false = (let y := Ms.takeI x false 48; let k := Ms.numI (Ms.allI y.1) (Ms.badI y.1 || y.2.2) 10; let a := Ms.attM true k.2.1 k.2.2; (⟨k.1, a.1.1, a.1.2⟩, y.2.1, Ms.endI y.2.2 a.2.2 a.2.1)) := rfl
    have hw4 := Ms.inner_w x false 48
    rw [e] at h3 h4 hea hw3 hlen
    clear e
    generalize Ms.takeI x false 48 = y2 at c2 hw3 hea hlen h3 h4 hw4
    dsimp only at hw3 hea hlen h3 h4
    generalize Ms.allI y2.1 = x2 at c2 hw3 hea hlen h3 h4 hw4
    generalize (Ms.badI y2.1 || y2.2.2) = b2 at c2 hw3 hea hlen h3 h4
    have hle := Ms.wI_len x2
    have c3 : ∀ g, CallsC Tryz.prog 39 [Is (pAt g 0), okI .u8 10] [IX g x2 b2] (fun _ => okI .i64 (Ms.numI x2 b2 10).1) (fun _ => [IX g (Ms.numI x2 b2 10).2.1 (Ms.numI x2 b2 10).2.2]) := fun g => miNum g x2 b2 10 (by omega)
    have hw5 := Ms.numI_w x2 b2 10
    generalize Ms.numI x2 b2 10 = k at c3 hw5 hea h3 h4
    have c4 := fun g => miAttr g k.2.1 k.2.2 (by omega)
    have hw6 : Ms.wI (Ms.attM true k.2.1 k.2.2).2.1 ≤ Ms.wI k.2.1 := Ms.innM_w _ _ _ _ _
    generalize Ms.attM true k.2.1 k.2.2 = a at c4 hw6 hea h3 h4
    have c5 := fun g g2 => miEnds g g2 y2.2.1 a.2.1 y2.2.2 a.2.2 (by omega)
    have hxl : 0 < x.length := List.length_pos_iff.2 hne
    refine run ?_
    intro v0 v1 v' _
    refine HX.roundX ((acc ++ [⟨k.1, a.1.1, a.1.2⟩], y2.2.1, Ms.endI y2.2.2 a.2.2 a.2.1), v') ⟨⟨by dsimp only; omega, fun hz => by have := hea hz; (try dsimp only at this); simp only [List.length_append, List.length_singleton]; omega, by simp only [List.length_append, List.length_singleton]; omega, by dsimp only; rw [List.append_assoc]; exact h3, h4⟩, ?_⟩ rfl (run trivial) (run trivial)
    dsimp only
    split
    · simp; omega
    · rename_i hz
      have := hea (by simpa using hz)
      (try dsimp only at this)
      simp; omega
  · have hend := Ms.repA_end (step := Ms.modM true) hgo
    rw [hend] at h3 h4
    rw [List.append_nil] at h3
    dsimp only at h4
    rw [← h3, ← h4]
    have c2 := fun g g2 => miEnds g g2 y.2.1 x y.2.2 b (by omega)
    have hne : x = [] ↔ x.length = 0 := List.length_eq_zero_iff.symm
    refine run ?_
    intro hh
    exact absurd ⟨fun e => by rw [e] at hh; simp at hh, hh.2⟩ hgo
end Go.Proofs.YtgaahjmgneallaaGreat
set_option linter.unusedVariables false
namespace Go.Ms
open Go.Vk
def midB (b : Bool) (x : List It) : List (List UInt8) × List It := if b = true then ([], x) else midI x
theorem midB_go {x : It} {r : List It} {b : Bool} (hb : b = false) (h : x.1 = 129) : midB b (x :: r) = (x.2 :: (midB b r).1, (midB b r).2) := by
  subst hb
  unfold midB
  rw [if_neg (by simp), if_neg (by simp), midI_go h]
theorem midB_end {x : List It} {b : Bool} (h : isI x b 129 = false) : midB b x = ([], x) := by
  unfold midB
  cases b with
  | true => rw [if_pos rfl]
  | false => rw [if_neg (by simp), midI_end h]
theorem subsK_def (l : List It) (bad : Bool) : subsK l bad = ((mayI l bad 128).1 :: ((midB (mayI l bad 128).2.2 (mayI l bad 128).2.1).1 ++ [(mayI (midB (mayI l bad 128).2.2 (mayI l bad 128).2.1).2 (mayI l bad 128).2.2 130).1]), (mayI (midB (mayI l bad 128).2.2 (mayI l bad 128).2.1).2 (mayI l bad 128).2.2 130).2) := rfl
end Go.Ms
set_option maxRecDepth 8000
set_option linter.unusedVariables false
namespace Go.Proofs.YtgaahjmgneallaaGreat
open Go.Vk
attribute [local irreducible] HT HX RegS RegA RegM OpP OpC AltT
attribute [local irreducible] Ber.tagB Ber.lenB Ber.intB Ber.allE Ber.fromIntB Ber.nextB Ms.midB
set_option maxHeartbeats 4000000 in
theorem miPieces (g : Nat) (l : List Ms.It) (bad : Bool) (hl : Ms.wI l ≤ 100000000) : CallsC Tryz.prog 136 [Is (pAt g 0)] [IX g l bad] (fun _ => TSl 1 En.cS (Ms.subsM true l bad).1) (fun _ => [IX g (Ms.subsM true l bad).2.1 (Ms.subsM true l bad).2.2]) := by
  have c1 : CallsC Tryz.prog 77 [Is (pAt g 0), okI .u8 48] [IX g l bad] (fun v => Is (pAt (blk v) 0)) (fun v => [IX g (Ms.takeI l bad 48).2.1 (Ms.takeI l bad 48).2.2, IX (blk v) (Ms.allI (Ms.takeI l bad 48).1) (Ms.badI (Ms.takeI l bad 48).1 || (Ms.takeI l bad 48).2.2)]) := miInner g l bad 48 hl
  have hw2 := Ms.inner_w l bad 48
  unfold Ms.subsM Ms.innM
  dsimp only [Ms.xbM, Ms.pbM]
  generalize Ms.takeI l bad 48 = y at c1 hw2 ⊢
  generalize hx : Ms.allI y.1 = x0 at c1 hw2 ⊢
  generalize hb : (Ms.badI y.1 || y.2.2) = b0 at c1 ⊢
  have hle := Ms.wI_len x0
  have c2 : ∀ g, CallsC Tryz.prog 50 [Is (pAt g 0), okI .u8 128] [IX g x0 b0] (fun _ => Is (.bool (Ms.isI x0 b0 128))) (fun _ => [IX g x0 b0]) := fun g => miIs g x0 b0 128
  have ma := MutA.mk' [8]
  have gv := Giv.mk' 2 2
  have hset : SetF (fun ts : List Ty => ts) 0 (fun x : List UInt8 => Is (str x)) (fun ts x => ts.set 0 (Is (str x))) := ⟨fun _ _ => rfl⟩
  cases hi : Ms.isI x0 b0 128 with
  | true =>
    rw [hi] at c2
    obtain ⟨hb0, it0, r0, rfl, ht0, et0⟩ := Ms.takeI_is hi
    have c3 : ∀ g, CallsC Tryz.prog 51 [Is (pAt g 0), okI .u8 128] [IX g (it0 :: r0) b0] (fun _ => TBytes (Ms.takeI (it0 :: r0) b0 128).1) (fun _ => [IX g (Ms.takeI (it0 :: r0) b0 128).2.1 (Ms.takeI (it0 :: r0) b0 128).2.2]) := fun g => miTake g (it0 :: r0) b0 128 (by omega)
    have hF : Ms.mayI (it0 :: r0) b0 128 = (it0.2, r0, false) := by unfold Ms.mayI; rw [if_pos hi, et0]
    rw [et0] at c3
    dsimp only at c3
    rw [Ms.wI_cons] at hw2
    have hl0 := Ms.wI_len r0
    refine CallsC.of Tryz.call136 Tryz.func136 rfl Tryz.ntmps136 rfl fun w0 G0 S0 hs ho => ?_
    refine run ?_
    intro v0 v1 _
    rw [show ownA (sblk v1) (scap v1) 9 1 (fun ts : List Ty => ts) [([[Is (.string { data := #[] })]].getD 0 default).set 0 (Is (str it0.2))] = ownA (sblk v1) (scap v1) 9 1 En.cS [it0.2] from ownA_map En.cS [it0.2]]
    refine HT.loopX (σ := List (List UInt8) × List Ms.It × Nat × Nat) [0, 2, 3] (fun t => [(4, Is (slAt t.2.2.1 t.1.length t.2.2.2))]) (fun t => [IX g y.2.1 y.2.2, IX (blk v0) t.2.1 false, ownA t.2.2.1 t.2.2.2 9 1 En.cS t.1]) (fun t => Ms.wI t.2.1 ≤ Ms.wI l ∧ (0 < t.1.length ∧ t.1.length + t.2.1.length ≤ Ms.wI l + 1) ∧ t.1 ++ (Ms.midB false t.2.1).1 = [it0.2] ++ (Ms.midB false r0).1 ∧ (Ms.midB false t.2.1).2 = (Ms.midB false r0).2) (fun t => t.2.1.length) ([it0.2], r0, sblk v1, scap v1) ⟨by dsimp only; omega, ⟨by simp, by simp; omega⟩, rfl, rfl⟩ (run trivial) (by first | exact run trivial | (refine run ?_; rfl)) ?_
    rintro ⟨acc, x, bk, cp⟩ ⟨h1, h2, h3, h4⟩
    dsimp only at h1 h2 h3 h4 ⊢
    have hlx := Ms.wI_len x
    have d1 : ∀ g, CallsC Tryz.prog 50 [Is (pAt g 0), okI .u8 129] [IX g x false] (fun _ => Is (.bool (Ms.isI x false 129))) (fun _ => [IX g x false]) := fun g => miIs g x false 129
    cases hm : Ms.isI x false 129 with
    | true =>
      rw [hm] at d1
      obtain ⟨hb2, it, r, rfl, ht, et⟩ := Ms.takeI_is hm
      have d2 : ∀ g, CallsC Tryz.prog 51 [Is (pAt g 0), okI .u8 129] [IX g (it :: r) false] (fun _ => TBytes (Ms.takeI (it :: r) false 129).1) (fun _ => [IX g (Ms.takeI (it :: r) false 129).2.1 (Ms.takeI (it :: r) false 129).2.2]) := fun g => miTake g (it :: r) false 129 (by omega)
      rw [et] at d2
      dsimp only at d2
      rw [Ms.midB_go hb2 ht] at h3 h4
      dsimp only at h3 h4
      rw [Ms.wI_cons] at h1
      rw [List.length_cons] at h2
      rw [← hb2] at d2
      refine run ?_
      intro v2 _
      refine HX.roundX (acc ++ [it.2], r, sblk v2, scap v2) ⟨⟨by dsimp only; omega, ⟨by simp, by simp only [List.length_append, List.length_singleton]; omega⟩, by dsimp only; rw [List.append_assoc]; exact h3, h4⟩, by simp⟩ rfl (run trivial) (run trivial)
    | false =>
      rw [hm] at d1
      rw [Ms.midB_end hm] at h3 h4
      rw [List.append_nil] at h3
      dsimp only at h4
      have eK : Ms.subsK (it0 :: r0) b0 = (acc ++ [(Ms.mayI x false 130).1], (Ms.mayI x false 130).2) := by
        rw [Ms.subsK_def, hF]
        dsimp only
        rw [← h4]
        rw [List.singleton_append] at h3
        rw [h3]
        rfl
      rw [eK]
      dsimp only
      have d3 : ∀ g, CallsC Tryz.prog 50 [Is (pAt g 0), okI .u8 130] [IX g x false] (fun _ => Is (.bool (Ms.isI x false 130))) (fun _ => [IX g x false]) := fun g => miIs g x false 130
      clear h3 h4 eK
      cases he : Ms.isI x false 130 with
      | true =>
        rw [he] at d3
        obtain ⟨hb2, it, r, rfl, ht, et⟩ := Ms.takeI_is he
        have d2 : ∀ g, CallsC Tryz.prog 51 [Is (pAt g 0), okI .u8 130] [IX g (it :: r) false] (fun _ => TBytes (Ms.takeI (it :: r) false 130).1) (fun _ => [IX g (Ms.takeI (it :: r) false 130).2.1 (Ms.takeI (it :: r) false 130).2.2]) := fun g => miTake g (it :: r) false 130 (by omega)
        have em : Ms.mayI (it :: r) false 130 = (it.2, r, false) := by unfold Ms.mayI; rw [if_pos he, et]
        rw [et] at d2
        rw [em]
        dsimp only at d2 ⊢
        rw [Ms.wI_cons] at h1
        have d4 := fun g g2 => miEnds g g2 y.2.1 r y.2.2 false (by omega)
        exact run trivial
      | false =>
        rw [he] at d3
        have em : Ms.mayI x false 130 = ([], x, false) := by unfold Ms.mayI; rw [if_neg (by rw [he]; simp)]
        rw [em]
        dsimp only
        have d4 := fun g g2 => miEnds g g2 y.2.1 x y.2.2 false (by omega)
        exact run trivial
  | false =>
    rw [hi] at c2
    have hF : Ms.mayI x0 b0 128 = ([], x0, b0) := by unfold Ms.mayI; rw [if_neg (by rw [hi]; simp)]
    refine CallsC.of Tryz.call136 Tryz.func136 rfl Tryz.ntmps136 rfl fun w0 G0 S0 hs ho => ?_
    refine run ?_
    intro v0 v1 _
    rw [show ownA (sblk v1) (scap v1) 9 1 (fun ts : List Ty => ts) [[Is (.string { data := #[] })]] = ownA (sblk v1) (scap v1) 9 1 En.cS [[]] from ownA_map En.cS [[]]]
    refine HT.loopX (σ := List (List UInt8) × List Ms.It × Nat × Nat) [0, 2, 3] (fun t => [(4, Is (slAt t.2.2.1 t.1.length t.2.2.2))]) (fun t => [IX g y.2.1 y.2.2, IX (blk v0) t.2.1 b0, ownA t.2.2.1 t.2.2.2 9 1 En.cS t.1]) (fun t => Ms.wI t.2.1 ≤ Ms.wI l ∧ (0 < t.1.length ∧ t.1.length + t.2.1.length ≤ Ms.wI l + 1) ∧ t.1 ++ (Ms.midB b0 t.2.1).1 = [[]] ++ (Ms.midB b0 x0).1 ∧ (Ms.midB b0 t.2.1).2 = (Ms.midB b0 x0).2) (fun t => t.2.1.length) ([[]], x0, sblk v1, scap v1) ⟨by dsimp only; omega, ⟨by simp, by simp; omega⟩, rfl, rfl⟩ (run trivial) (by first | exact run trivial | (refine run ?_; rfl)) ?_
    rintro ⟨acc, x, bk, cp⟩ ⟨h1, h2, h3, h4⟩
    dsimp only at h1 h2 h3 h4 ⊢
    have hlx := Ms.wI_len x
    have d1 : ∀ g, CallsC Tryz.prog 50 [Is (pAt g 0), okI .u8 129] [IX g x b0] (fun _ => Is (.bool (Ms.isI x b0 129))) (fun _ => [IX g x b0]) := fun g => miIs g x b0 129
    cases hm : Ms.isI x b0 129 with
    | true =>
      rw [hm] at d1
      obtain ⟨hb2, it, r, rfl, ht, et⟩ := Ms.takeI_is hm
      have d2 : ∀ g, CallsC Tryz.prog 51 [Is (pAt g 0), okI .u8 129] [IX g (it :: r) b0] (fun _ => TBytes (Ms.takeI (it :: r) b0 129).1) (fun _ => [IX g (Ms.takeI (it :: r) b0 129).2.1 (Ms.takeI (it :: r) b0 129).2.2]) := fun g => miTake g (it :: r) b0 129 (by omega)
      rw [et] at d2
      dsimp only at d2
      rw [Ms.midB_go hb2 ht] at h3 h4
      dsimp only at h3 h4
      rw [Ms.wI_cons] at h1
      rw [List.length_cons] at h2
      rw [← hb2] at d2
      refine run ?_
      intro v2 _
      refine HX.roundX (acc ++ [it.2], r, sblk v2, scap v2) ⟨⟨by dsimp only; omega, ⟨by simp, by simp only [List.length_append, List.length_singleton]; omega⟩, by dsimp only; rw [List.append_assoc]; exact h3, h4⟩, by simp⟩ rfl (run trivial) (run trivial)
    | false =>
      rw [hm] at d1
      rw [Ms.midB_end hm] at h3 h4
      rw [List.append_nil] at h3
      dsimp only at h4
      have eK : Ms.subsK x0 b0 = (acc ++ [(Ms.mayI x b0 130).1], (Ms.mayI x b0 130).2) := by
        rw [Ms.subsK_def, hF]
        dsimp only
        rw [← h4]
        rw [List.singleton_append] at h3
        rw [h3]
        rfl
      rw [eK]
      dsimp only
      have d3 : ∀ g, CallsC Tryz.prog 50 [Is (pAt g 0), okI .u8 130] [IX g x b0] (fun _ => Is (.bool (Ms.isI x b0 130))) (fun _ => [IX g x b0]) := fun g => miIs g x b0 130
      clear h3 h4 eK
      cases he : Ms.isI x b0 130 with
      | true =>
        rw [he] at d3
        obtain ⟨hb2, it, r, rfl, ht, et⟩ := Ms.takeI_is he
        have d2 : ∀ g, CallsC Tryz.prog 51 [Is (pAt g 0), okI .u8 130] [IX g (it :: r) b0] (fun _ => TBytes (Ms.takeI (it :: r) b0 130).1) (fun _ => [IX g (Ms.takeI (it :: r) b0 130).2.1 (Ms.takeI (it :: r) b0 130).2.2]) := fun g => miTake g (it :: r) b0 130 (by omega)
        have em : Ms.mayI (it :: r) b0 130 = (it.2, r, false) := by unfold Ms.mayI; rw [if_pos he, et]
        rw [et] at d2
        rw [em]
        dsimp only at d2 ⊢
        rw [Ms.wI_cons] at h1
        have d4 := fun g g2 => miEnds g g2 y.2.1 r y.2.2 false (by omega)
        exact run trivial
      | false =>
        rw [he] at d3
        have em : Ms.mayI x b0 130 = ([], x, b0) := by unfold Ms.mayI; rw [if_neg (by rw [he]; simp)]
        rw [em]
        dsimp only
        have d4 := fun g g2 => miEnds g g2 y.2.1 x y.2.2 b0 (by omega)
        exact run trivial
end Go.Proofs.YtgaahjmgneallaaGreat
set_option linter.unusedVariables false
namespace Go.Ms
open Go.Vk
open Go.Fi (Fil)
/-- Where the document's reader is good, so is the program's, and it reads the same, within bounds; where the program's is good and reads within bounds, so is the document's. -/
def EqvR {α : Type} (ok : α → Prop) (p d : α × List It × Bool) : Prop := (d.2.2 = false → p = d ∧ ok p.1) ∧ (p.2.2 = false → ok p.1 → d = p)
theorem EqvR.refl {α : Type} {ok : α → Prop} {p : α × List It × Bool} (h : p.2.2 = false → ok p.1) : EqvR ok p p := ⟨fun h1 => ⟨rfl, h h1⟩, fun _ _ => rfl⟩
theorem EqvR.bad {α : Type} {ok : α → Prop} {p d : α × List It × Bool} (h1 : p.2.2 = true) (h2 : d.2.2 = true) : EqvR ok p d := ⟨fun h => (by rw [h2] at h; cases h), fun h => (by rw [h1] at h; cases h)⟩
theorem innM_bad {α : Type} (m : Bool) (t : UInt8) (k : List It → Bool → α × List It × Bool) (l : List It) : (innM m t k l true).2.2 = true := by
  unfold innM
  rw [takeI_bad]
  cases m <;> simp [endI, pbM]
theorem innM_eqv {α : Type} {ok : α → Prop} {t : UInt8} {kP kD : List It → Bool → α × List It × Bool} (hk : ∀ l, EqvR ok (kP l false) (kD l false)) (bP : ∀ l, (kP l true).2.2 = true) (l : List It) (bad : Bool) : EqvR ok (innM true t kP l bad) (innM false t kD l bad) := by
  unfold innM
  generalize takeI l bad t = y
  obtain ⟨b, r, yb⟩ := y
  dsimp only
  cases yb with
  | true =>
    refine .bad ?_ ?_
    · simp [endI, pbM]
    · simp [endI, pbM]
  | false =>
    cases hb : badI b with
    | true =>
      have h1 := bP (allI b)
      refine .bad ?_ ?_
      · simp [endI, pbM, xbM, hb, h1]
      · simp [endI, pbM, hb]
    | false =>
      have h := hk (allI b)
      have e1 : xbM true (b, r, false) = false := by simp [xbM, hb]
      have e2 : xbM false (b, r, false) = false := by simp [xbM, hb]
      have e3 : pbM true (b, r, false) = false := rfl
      have e4 : pbM false (b, r, false) = false := by simp [pbM, hb]
      rw [e1, e2, e3, e4]
      refine ⟨fun h1 => ?_, fun h1 h2 => ?_⟩
      · dsimp only at h1 ⊢
        obtain ⟨_, g1, g2⟩ := endI_f h1
        obtain ⟨g3, g4⟩ := h.1 g1
        rw [g3] at g4 ⊢
        exact ⟨rfl, g4⟩
      · dsimp only at h1 h2 ⊢
        obtain ⟨_, g1, g2⟩ := endI_f h1
        rw [h.2 g1 h2]
theorem rep_bad {α : Type} (step : List It → Bool → α × List It × Bool) : ∀ (n : Nat) (l : List It), rep step n l true = ([], l, true)
  | 0, _ => rfl
  | n + 1, _ => by unfold rep; rw [if_neg (by simp)]
theorem rep_eqv {α : Type} {ok : α → Prop} {sP sD : List It → Bool → α × List It × Bool} (hs : ∀ l, EqvR ok (sP l false) (sD l false)) : ∀ (n : Nat) (l : List It) (bad : Bool), EqvR (fun z => ∀ a ∈ z, ok a) (rep sP n l bad) (rep sD n l bad)
  | 0, l, bad => .refl (fun _ a h => by cases h)
  | n + 1, l, bad => by
    unfold rep
    by_cases hc : l ≠ [] ∧ bad = false
    · obtain ⟨hc1, rfl⟩ := hc
      rw [if_pos ⟨hc1, rfl⟩, if_pos ⟨hc1, rfl⟩]
      have h := hs l
      refine ⟨fun h1 => ?_, fun h1 h2 => ?_⟩
      · dsimp only at h1 ⊢
        by_cases hb : (sD l false).2.2 = true
        · rw [hb, rep_bad] at h1; cases h1
        · obtain ⟨g1, g2⟩ := h.1 (by simpa using hb)
          have ih := rep_eqv hs n (sD l false).2.1 (sD l false).2.2
          obtain ⟨g3, g4⟩ := ih.1 h1
          rw [g1] at g2 ⊢
          rw [g3] at g4 ⊢
          exact ⟨rfl, fun a ha => by
            rcases List.mem_cons.1 ha with rfl | ha
            · exact g2
            · exact g4 a ha⟩
      · dsimp only at h1 h2 ⊢
        by_cases hb : (sP l false).2.2 = true
        · rw [hb, rep_bad] at h1; cases h1
        · have g1 := h.2 (by simpa using hb) (h2 _ (by simp))
          have ih := rep_eqv hs n (sP l false).2.1 (sP l false).2.2
          rw [g1, ih.2 h1 (fun a ha => h2 a (by simp [ha]))]
    · rw [if_neg hc, if_neg hc]
      exact .refl (fun _ a h => by cases h)
theorem repA_eqv {α : Type} {ok : α → Prop} {sP sD : List It → Bool → α × List It × Bool} (hs : ∀ l, EqvR ok (sP l false) (sD l false)) (l : List It) (bad : Bool) : EqvR (fun z => ∀ a ∈ z, ok a) (repA sP l bad) (repA sD l bad) := rep_eqv hs _ l bad
theorem EqvR.mono {α : Type} {ok ok' : α → Prop} {p d : α × List It × Bool} (h : EqvR ok p d) (h1 : ∀ a, ok a → ok' a) (h2 : ∀ a, ok' a → ok a) : EqvR ok' p d := ⟨fun hd => ⟨(h.1 hd).1, h1 _ (h.1 hd).2⟩, fun hp ho => h.2 hp (h2 _ ho)⟩
def okT {α : Type} (_ : α) : Prop := True
theorem EqvR.okT {α : Type} {ok : α → Prop} {p d : α × List It × Bool} (h : EqvR ok p d) (h2 : ∀ a, ok a) : EqvR Ms.okT p d := h.mono (fun _ _ => trivial) (fun a _ => h2 a)
theorem repA_bad2 {α : Type} (step : List It → Bool → α × List It × Bool) (l : List It) : (repA step l true).2.2 = true := by rw [repA_bad]
theorem texts_eqv (t : UInt8) (l : List It) (bad : Bool) : EqvR okT (textsM true t l bad) (textsM false t l bad) := innM_eqv (fun l => .refl (fun _ => trivial)) (repA_bad2 _) l bad
theorem attK_eqv (l : List It) (bad : Bool) : EqvR okT (attK true l bad) (attK false l bad) := by
  unfold attK
  have h := texts_eqv 49 (textI l bad).2.1 (textI l bad).2.2
  refine ⟨fun h1 => ?_, fun h1 _ => ?_⟩
  · dsimp only at h1 ⊢
    rw [(h.1 h1).1]
    exact ⟨rfl, trivial⟩
  · dsimp only at h1 ⊢
    rw [h.2 h1 trivial]
theorem attK_bad (m : Bool) (l : List It) : (attK m l true).2.2 = true := by
  unfold attK textI
  rw [takeI_bad]
  exact innM_bad _ _ _ _
theorem att_eqv (l : List It) (bad : Bool) : EqvR okT (attM true l bad) (attM false l bad) := innM_eqv (fun l => attK_eqv l false) (attK_bad true) l bad
theorem attr_eqv (l : List It) (bad : Bool) : EqvR okT (attrM true l bad) (attrM false l bad) := by
  have h := att_eqv l bad
  unfold attrM
  refine ⟨fun h1 => ?_, fun h1 _ => ?_⟩
  · dsimp only at h1 ⊢
    rw [(h.1 h1).1]
    exact ⟨rfl, trivial⟩
  · dsimp only at h1 ⊢
    rw [h.2 h1 trivial]
theorem attrs_eqv (l : List It) (bad : Bool) : EqvR okT (attrsM true l bad) (attrsM false l bad) := innM_eqv (fun l => (repA_eqv (fun l => attr_eqv l false) l false).okT (fun _ _ _ => trivial)) (repA_bad2 _) l bad
def okM (m : Mod) : Prop := 0 ≤ m.kind ∧ m.kind ≤ 2
theorem numR_f {l : List It} {bad : Bool} {t : UInt8} {lo hi : Int} (h : (numR l bad t lo hi).2.2 = false) : (numI l bad t).2.2 = false ∧ lo ≤ (numI l bad t).1 ∧ (numI l bad t).1 ≤ hi ∧ numR l bad t lo hi = numI l bad t := by
  have h0 := h
  unfold numR at h
  simp only [Bool.or_eq_false_iff, decide_eq_false_iff_not] at h
  refine ⟨h.1, by omega, by omega, ?_⟩
  unfold numR
  rw [show (numI l bad t) = ((numI l bad t).1, (numI l bad t).2.1, (numI l bad t).2.2) from rfl]
  dsimp only
  rw [h.1]
  simp only [Bool.false_or]
  have e : (decide ((numI l bad t).1 < lo) || decide (hi < (numI l bad t).1)) = false := by
    simp only [Bool.or_eq_false_iff, decide_eq_false_iff_not]
    exact h.2
  rw [e]
theorem numR_of {l : List It} {bad : Bool} {t : UInt8} {lo hi : Int} (h : (numI l bad t).2.2 = false) (h1 : lo ≤ (numI l bad t).1 ∧ (numI l bad t).1 ≤ hi) : numR l bad t lo hi = numI l bad t := by
  refine (numR_f ?_).2.2.2
  unfold numR
  rw [h]
  simp only [Bool.or_eq_false_iff, decide_eq_false_iff_not, Bool.false_or]
  omega
theorem numI_bad (l : List It) (t : UInt8) : (numI l true t).2.2 = true := by
  unfold numI; rw [takeI_bad]; simp
theorem attM_bad (m : Bool) (l : List It) : (attM m l true).2.2 = true := innM_bad _ _ _ _
theorem modK_bad (m : Bool) (l : List It) : (modK m l true).2.2 = true := by
  have h := numI_bad l 10
  have e : (kindM m l true).2.2 = true := by
    cases m with
    | true => exact h
    | false => show ((numI l true 10).2.2 || _) = true; rw [h]; rfl
  unfold modK
  dsimp only
  rw [e]
  exact attM_bad _ _
theorem modK_eqv (l : List It) : EqvR okM (modK true l false) (modK false l false) := by
  refine ⟨fun h1 => ?_, fun h1 h2 => ?_⟩
  · have hk : (numR l false 10 0 2).2.2 = false := by
      cases h : (numR l false 10 0 2).2.2 with
      | false => rfl
      | true =>
        unfold modK kindM at h1
        dsimp only at h1
        rw [h, attM_bad] at h1
        cases h1
    obtain ⟨g1, g2, g3, g4⟩ := numR_f hk
    unfold modK kindM at h1 ⊢
    dsimp only at h1 ⊢
    rw [g4] at h1 ⊢
    have h := (att_eqv (numI l false 10).2.1 (numI l false 10).2.2).1 h1
    rw [h.1]
    exact ⟨rfl, g2, g3⟩
  · have hk : (numI l false 10).2.2 = false := by
      cases h : (numI l false 10).2.2 with
      | false => rfl
      | true =>
        unfold modK kindM at h1
        dsimp only at h1
        rw [h, attM_bad] at h1
        cases h1
    have g4 := numR_of (lo := 0) (hi := 2) hk h2
    unfold modK kindM at h1 ⊢
    dsimp only at h1 ⊢
    rw [g4]
    rw [(att_eqv (numI l false 10).2.1 (numI l false 10).2.2).2 h1 trivial]
theorem mod_eqv (l : List It) (bad : Bool) : EqvR okM (modM true l bad) (modM false l bad) := innM_eqv modK_eqv (modK_bad true) l bad
theorem mods_eqv (l : List It) (bad : Bool) : EqvR (fun z => ∀ m ∈ z, okM m) (modsM true l bad) (modsM false l bad) := innM_eqv (fun l => repA_eqv (fun l => mod_eqv l false) l false) (repA_bad2 _) l bad
theorem mayI_bad (l : List It) (t : UInt8) : mayI l true t = ([], l, true) := by
  unfold mayI
  rw [if_neg]
  cases l <;> simp [isI]
theorem subsK_bad (l : List It) : (subsK l true).2.2 = true := by
  unfold subsK
  rw [mayI_bad]
  dsimp only
  rw [if_pos rfl, mayI_bad]
theorem subs_eqv (l : List It) (bad : Bool) : EqvR okT (subsM true l bad) (subsM false l bad) := innM_eqv (fun l => .refl (fun _ => trivial)) subsK_bad l bad
end Go.Ms
set_option linter.unusedVariables false
namespace Go.Ms
open Go.Vk
open Go.Fi (Fil)
/-! ### filters -/
def kindT (t : UInt8) : Int := ((t &&& ~~~ (b8 160)).toNat : Int)
def pairK (l : List It) (bad : Bool) : (List UInt8 × List UInt8) × List It × Bool :=
  let a := textI l bad
  let b := textI a.2.1 a.2.2
  ((a.1, b.1), b.2)
def leafK (m : Bool) (l : List It) (bad : Bool) : (List UInt8 × List (List UInt8)) × List It × Bool :=
  let a := textI l bad
  let s := subsM m a.2.1 a.2.2
  ((a.1, s.1), s.2)
def filtT (kids : List It → Bool → Fil × List It × Bool) (x : It) (r : List It) : Fil × List It × Bool :=
  let tg := if x.1 = 168 then 163 else x.1
  if tg.toNat < 160 then (.mk (kindT tg) [] [] [] [], r, true)
  else if kindT tg ≤ 2 then let z := innM true x.1 (repA kids) (x :: r) false; (.mk (kindT tg) [] [] [] z.1, z.2)
  else if kindT tg = 4 then let z := innM true x.1 (leafK true) (x :: r) false; (.mk 4 z.1.1 [] z.1.2 [], z.2)
  else if kindT tg ≤ 6 then let z := innM true x.1 pairK (x :: r) false; (.mk (kindT tg) z.1.1 z.1.2 [] [], z.2)
  else (.mk (kindT tg) [] [] [] [], r, true)
/-- A filter, that holds others so deep. -/
def filtP : Nat → List It → Bool → Fil × List It × Bool
  | 0, l, _ => (Fi.zeroF, l, true)
  | _ + 1, [], _ => (Fi.zeroF, [], true)
  | n + 1, x :: r, bad => if bad = true then (Fi.zeroF, x :: r, true) else if x.1 = 135 then (.mk 7 x.2 [] [] [], r, false) else filtT (filtP n) x r
/-- The next tag. -/
def peekI : List It → Bool → UInt8
  | [], _ => 0
  | x :: _, bad => if bad = true then 0 else x.1
def filtD : Nat → List It → Bool → Fil × List It × Bool
  | 0, l, _ => (Fi.zeroF, l, true)
  | n + 1, l, bad =>
    let t := peekI l bad
    if t = 160 ∨ t = 161 ∨ t = 162 then let z := innM false t (repA (filtD n)) l bad; (.mk ((t.toNat : Int) - 160) [] [] [] z.1, z.2)
    else if t = 163 ∨ t = 165 ∨ t = 166 then let z := innM false t pairK l bad; (.mk ((t.toNat : Int) - 160) z.1.1 z.1.2 [] [], z.2)
    else if t = 168 then let z := innM false t pairK l bad; (.mk 3 z.1.1 z.1.2 [] [], z.2)
    else if t = 164 then let z := innM false t (leafK false) l bad; (.mk 4 z.1.1 [] z.1.2 [], z.2)
    else let y := takeI l bad 135; (.mk 7 y.1 [] [] [], y.2)
theorem pairK_bad (l : List It) : (pairK l true).2.2 = true := by
  unfold pairK textI
  rw [takeI_bad]
  dsimp only
  rw [takeI_bad]
theorem leafK_bad (m : Bool) (l : List It) : (leafK m l true).2.2 = true := by
  unfold leafK textI
  rw [takeI_bad]
  exact innM_bad _ _ _ _
theorem pair_eqv (t : UInt8) (l : List It) (bad : Bool) : EqvR okT (innM true t pairK l bad) (innM false t pairK l bad) := innM_eqv (fun l => .refl (fun _ => trivial)) pairK_bad l bad
theorem leafK_eqv (l : List It) (bad : Bool) : EqvR okT (leafK true l bad) (leafK false l bad) := by
  unfold leafK
  have h := subs_eqv (textI l bad).2.1 (textI l bad).2.2
  refine ⟨fun h1 => ?_, fun h1 _ => ?_⟩
  · dsimp only at h1 ⊢
    rw [(h.1 h1).1]
    exact ⟨rfl, trivial⟩
  · dsimp only at h1 ⊢
    rw [h.2 h1 trivial]
theorem leaf_eqv (t : UInt8) (l : List It) (bad : Bool) : EqvR okT (innM true t (leafK true) l bad) (innM false t (leafK false) l bad) := innM_eqv (fun l => leafK_eqv l false) (leafK_bad true) l bad
theorem EqvR.map {α β : Type} {p d : α × List It × Bool} (f : α → β) (h : EqvR Ms.okT p d) : EqvR Ms.okT (f p.1, p.2) (f d.1, d.2) := ⟨fun h1 => ⟨by rw [(h.1 h1).1], trivial⟩, fun h1 _ => by rw [h.2 h1 trivial]⟩
theorem kind_tags : ∀ t : UInt8, t ≠ 168 → t ≠ 160 → t ≠ 161 → t ≠ 162 → t ≠ 163 → t ≠ 164 → t ≠ 165 → t ≠ 166 → ¬ t.toNat < 160 → ¬ kindT t ≤ 6 := by
  refine Ber.all256 (p := fun t => t ≠ 168 → t ≠ 160 → t ≠ 161 → t ≠ 162 → t ≠ 163 → t ≠ 164 → t ≠ 165 → t ≠ 166 → ¬ t.toNat < 160 → ¬ kindT t ≤ 6) ?_
  unfold kindT
  decide +kernel
theorem kindT_0 : kindT 160 = 0 := by decide +kernel
theorem kindT_1 : kindT 161 = 1 := by decide +kernel
theorem kindT_2 : kindT 162 = 2 := by decide +kernel
theorem kindT_3 : kindT 163 = 3 := by decide +kernel
theorem kindT_4 : kindT 164 = 4 := by decide +kernel
theorem kindT_5 : kindT 165 = 5 := by decide +kernel
theorem kindT_6 : kindT 166 = 6 := by decide +kernel
theorem takeI_other {x : It} {r : List It} {t : UInt8} (h : x.1 ≠ t) (bad : Bool) : takeI (x :: r) bad t = ([], x :: r, true) := by
  show (if bad = false ∧ x.1 = t then (x.2, r, bad) else ([], x :: r, true)) = _
  rw [if_neg (fun e => h e.2)]
theorem filtT_bad {kids : List It → Bool → Fil × List It × Bool} {x : It} (r : List It) (h8 : x.1 ≠ 168) (h0 : x.1 ≠ 160) (h1 : x.1 ≠ 161) (h2 : x.1 ≠ 162) (h3 : x.1 ≠ 163) (h4 : x.1 ≠ 164) (h5 : x.1 ≠ 165) (h6 : x.1 ≠ 166) : (filtT kids x r).2.2 = true := by
  unfold filtT
  rw [if_neg h8]
  have h := kind_tags x.1 h8 h0 h1 h2 h3 h4 h5 h6
  by_cases hl : x.1.toNat < 160
  · rw [if_pos hl]
  · have hk := h hl
    rw [if_neg hl, if_neg (by omega), if_neg (by omega), if_neg hk]
theorem filt_eqv : ∀ (n : Nat) (l : List It) (bad : Bool), EqvR okT (filtP n l bad) (filtD n l bad)
  | 0, l, bad => .bad rfl rfl
  | n + 1, [], bad => by
    refine .bad rfl ?_
    unfold filtD
    simp [peekI, takeI]
  | n + 1, x :: r, true => by
    refine .bad rfl ?_
    unfold filtD
    simp [peekI, takeI_bad]
  | n + 1, x :: r, false => by
    have ih := filt_eqv n
    have hk : ∀ (t : UInt8) (l : List It) (bad : Bool), EqvR okT (innM true t (repA (filtP n)) l bad) (innM false t (repA (filtD n)) l bad) := fun t l bad => innM_eqv (fun l => (repA_eqv (fun l => ih l false) l false).okT (fun _ _ _ => trivial)) (repA_bad2 _) l bad
    have eP : filtP (n + 1) (x :: r) false = if x.1 = 135 then (.mk 7 x.2 [] [] [], r, false) else filtT (filtP n) x r := by
      conv => lhs; unfold filtP
      rw [if_neg (by simp)]
    obtain ⟨t, b⟩ := x
    rw [eP]
    unfold filtD
    have ep : peekI ((t, b) :: r) false = t := by simp [peekI]
    rw [ep]
    dsimp only
    by_cases h7 : t = 135
    · subst h7
      rw [if_pos rfl, if_neg (by decide), if_neg (by decide), if_neg (by decide), if_neg (by decide)]
      exact .refl (fun _ => trivial)
    rw [if_neg h7]
    by_cases h0 : t = 160
    · subst h0
      have h := (hk 160 ((160, b) :: r) false).map (fun z => Fil.mk 0 [] [] [] z)
      unfold filtT
      simpa [kindT_0] using h
    by_cases h1 : t = 161
    · subst h1
      have h := (hk 161 ((161, b) :: r) false).map (fun z => Fil.mk 1 [] [] [] z)
      unfold filtT
      simpa [kindT_1] using h
    by_cases h2 : t = 162
    · subst h2
      have h := (hk 162 ((162, b) :: r) false).map (fun z => Fil.mk 2 [] [] [] z)
      unfold filtT
      simpa [kindT_2] using h
    by_cases h3 : t = 163
    · subst h3
      have h := (pair_eqv 163 ((163, b) :: r) false).map (fun z => Fil.mk 3 z.1 z.2 [] [])
      unfold filtT
      simpa [kindT_3] using h
    by_cases h5 : t = 165
    · subst h5
      have h := (pair_eqv 165 ((165, b) :: r) false).map (fun z => Fil.mk 5 z.1 z.2 [] [])
      unfold filtT
      simpa [kindT_5] using h
    by_cases h6 : t = 166
    · subst h6
      have h := (pair_eqv 166 ((166, b) :: r) false).map (fun z => Fil.mk 6 z.1 z.2 [] [])
      unfold filtT
      simpa [kindT_6] using h
    by_cases h8 : t = 168
    · subst h8
      have h := (pair_eqv 168 ((168, b) :: r) false).map (fun z => Fil.mk 3 z.1 z.2 [] [])
      unfold filtT
      simpa [kindT_3] using h
    by_cases h4 : t = 164
    · subst h4
      have h := (leaf_eqv 164 ((164, b) :: r) false).map (fun z => Fil.mk 4 z.1 [] z.2 [])
      unfold filtT
      simpa [kindT_4] using h
    rw [if_neg (by simp [h0, h1, h2]), if_neg (by simp [h3, h5, h6]), if_neg h8, if_neg h4, takeI_other h7]
    exact .bad (filtT_bad r h8 h0 h1 h2 h3 h4 h5 h6) rfl
end Go.Ms
