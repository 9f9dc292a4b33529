/-
  Filters, operations, requests out of items: the plain functions of the program's readers and the document's; they agree. Nothing here speaks of a program.
  The contract of the program's reader of filters.
  Operations, requests out of bytes: the plain functions of the program's readers and the document's; they agree. Nothing here speaks of a program.
  Bytes as a request: the program's plain function and the document's are one. Nothing here speaks of a program.
  The contracts of the program's search and operation.
-/
import Derived.Test.YtkpghepeagafoaaGreatJas
set_option linter.unusedSimpArgs false
set_option linter.unusedVariables false
set_option linter.unusedVariables false
namespace Go.Ms
open Go.Vk
open Go.Fi (Fil)
/-! ### filters -/
def kindT (t : UInt8) : Int := ((t &&& ~~~ (b8 160)).toNat : Int)
def pairK (l : List It) (bad : Bool) : (List UInt8 × List UInt8) × List It × Bool :=
  let a := textI l bad
  let b := textI a.2.1 a.2.2
  ((a.1, b.1), b.2)
def leafK (m : Bool) (l : List It) (bad : Bool) : (List UInt8 × List (List UInt8)) × List It × Bool :=
  let a := textI l bad
  let s := subsM m a.2.1 a.2.2
  ((a.1, s.1), s.2)
def filtT (kids : List It → Bool → Fil × List It × Bool) (x : It) (r : List It) : Fil × List It × Bool :=
  let tg := if x.1 = 168 then 163 else x.1
  if tg.toNat < 160 then (.mk (kindT tg) [] [] [] [], r, true)
  else if kindT tg ≤ 2 then let z := innM true x.1 (repA kids) (x :: r) false; (.mk (kindT tg) [] [] [] z.1, z.2)
  else if kindT tg = 4 then let z := innM true x.1 (leafK true) (x :: r) false; (.mk 4 z.1.1 [] z.1.2 [], z.2)
  else if kindT tg ≤ 6 then let z := innM true x.1 pairK (x :: r) false; (.mk (kindT tg) z.1.1 z.1.2 [] [], z.2)
  else (.mk (kindT tg) [] [] [] [], r, true)
/-- A filter, that holds others so deep. -/
def filtP : Nat → List It → Bool → Fil × List It × Bool
  | 0, l, _ => (Fi.zeroF, l, true)
  | _ + 1, [], _ => (Fi.zeroF, [], true)
  | n + 1, x :: r, bad => if bad = true then (Fi.zeroF, x :: r, true) else if x.1 = 135 then (.mk 7 x.2 [] [] [], r, false) else filtT (filtP n) x r
/-- The next tag. -/
def peekI : List It → Bool → UInt8
  | [], _ => 0
  | x :: _, bad => if bad = true then 0 else x.1
def filtD : Nat → List It → Bool → Fil × List It × Bool
  | 0, l, _ => (Fi.zeroF, l, true)
  | n + 1, l, bad =>
    let t := peekI l bad
    if t = 160 ∨ t = 161 ∨ t = 162 then let z := innM false t (repA (filtD n)) l bad; (.mk ((t.toNat : Int) - 160) [] [] [] z.1, z.2)
    else if t = 163 ∨ t = 165 ∨ t = 166 then let z := innM false t pairK l bad; (.mk ((t.toNat : Int) - 160) z.1.1 z.1.2 [] [], z.2)
    else if t = 168 then let z := innM false t pairK l bad; (.mk 3 z.1.1 z.1.2 [] [], z.2)
    else if t = 164 then let z := innM false t (leafK false) l bad; (.mk 4 z.1.1 [] z.1.2 [], z.2)
    else let y := takeI l bad 135; (.mk 7 y.1 [] [] [], y.2)
theorem pairK_bad (l : List It) : (pairK l true).2.2 = true := by
  unfold pairK textI
  rw [takeI_bad]
  dsimp only
  rw [takeI_bad]
theorem leafK_bad (m : Bool) (l : List It) : (leafK m l true).2.2 = true := by
  unfold leafK textI
  rw [takeI_bad]
  exact innM_bad _ _ _ _
theorem pair_eqv (t : UInt8) (l : List It) (bad : Bool) : EqvR okT (innM true t pairK l bad) (innM false t pairK l bad) := innM_eqv (fun l => .refl (fun _ => trivial)) pairK_bad l bad
theorem leafK_eqv (l : List It) (bad : Bool) : EqvR okT (leafK true l bad) (leafK false l bad) := by
  unfold leafK
  have h := subs_eqv (textI l bad).2.1 (textI l bad).2.2
  refine ⟨fun h1 => ?_, fun h1 _ => ?_⟩
  · dsimp only at h1 ⊢
    rw [(h.1 h1).1]
    exact ⟨rfl, trivial⟩
  · dsimp only at h1 ⊢
    rw [h.2 h1 trivial]
theorem leaf_eqv (t : UInt8) (l : List It) (bad : Bool) : EqvR okT (innM true t (leafK true) l bad) (innM false t (leafK false) l bad) := innM_eqv (fun l => leafK_eqv l false) (leafK_bad true) l bad
theorem EqvR.map {α β : Type} {p d : α × List It × Bool} (f : α → β) (h : EqvR Ms.okT p d) : EqvR Ms.okT (f p.1, p.2) (f d.1, d.2) := ⟨fun h1 => ⟨by rw [(h.1 h1).1], trivial⟩, fun h1 _ => by rw [h.2 h1 trivial]⟩
theorem kind_tags : ∀ t : UInt8, t ≠ 168 → t ≠ 160 → t ≠ 161 → t ≠ 162 → t ≠ 163 → t ≠ 164 → t ≠ 165 → t ≠ 166 → ¬ t.toNat < 160 → ¬ kindT t ≤ 6 := by
  refine Ber.all256 (p := fun t => t ≠ 168 → t ≠ 160 → t ≠ 161 → t ≠ 162 → t ≠ 163 → t ≠ 164 → t ≠ 165 → t ≠ 166 → ¬ t.toNat < 160 → ¬ kindT t ≤ 6) ?_
  unfold kindT
  decide +kernel
theorem kindT_0 : kindT 160 = 0 := by decide +kernel
theorem kindT_1 : kindT 161 = 1 := by decide +kernel
theorem kindT_2 : kindT 162 = 2 := by decide +kernel
theorem kindT_3 : kindT 163 = 3 := by decide +kernel
theorem kindT_4 : kindT 164 = 4 := by decide +kernel
theorem kindT_5 : kindT 165 = 5 := by decide +kernel
theorem kindT_6 : kindT 166 = 6 := by decide +kernel
theorem takeI_other {x : It} {r : List It} {t : UInt8} (h : x.1 ≠ t) (bad : Bool) : takeI (x :: r) bad t = ([], x :: r, true) := by
  show (if bad = false ∧ x.1 = t then (x.2, r, bad) else ([], x :: r, true)) = _
  rw [if_neg (fun e => h e.2)]
theorem filtT_bad {kids : List It → Bool → Fil × List It × Bool} {x : It} (r : List It) (h8 : x.1 ≠ 168) (h0 : x.1 ≠ 160) (h1 : x.1 ≠ 161) (h2 : x.1 ≠ 162) (h3 : x.1 ≠ 163) (h4 : x.1 ≠ 164) (h5 : x.1 ≠ 165) (h6 : x.1 ≠ 166) : (filtT kids x r).2.2 = true := by
  unfold filtT
  rw [if_neg h8]
  have h := kind_tags x.1 h8 h0 h1 h2 h3 h4 h5 h6
  by_cases hl : x.1.toNat < 160
  · rw [if_pos hl]
  · have hk := h hl
    rw [if_neg hl, if_neg (by omega), if_neg (by omega), if_neg hk]
theorem filt_eqv : ∀ (n : Nat) (l : List It) (bad : Bool), EqvR okT (filtP n l bad) (filtD n l bad)
  | 0, l, bad => .bad rfl rfl
  | n + 1, [], bad => by
    refine .bad rfl ?_
    unfold filtD
    simp [peekI, takeI]
  | n + 1, x :: r, true => by
    refine .bad rfl ?_
    unfold filtD
    simp [peekI, takeI_bad]
  | n + 1, x :: r, false => by
    have ih := filt_eqv n
    have hk : ∀ (t : UInt8) (l : List It) (bad : Bool), EqvR okT (innM true t (repA (filtP n)) l bad) (innM false t (repA (filtD n)) l bad) := fun t l bad => innM_eqv (fun l => (repA_eqv (fun l => ih l false) l false).okT (fun _ _ _ => trivial)) (repA_bad2 _) l bad
    have eP : filtP (n + 1) (x :: r) false = if x.1 = 135 then (.mk 7 x.2 [] [] [], r, false) else filtT (filtP n) x r := by
      conv => lhs; unfold filtP
      rw [if_neg (by simp)]
    obtain ⟨t, b⟩ := x
    rw [eP]
    unfold filtD
    have ep : peekI ((t, b) :: r) false = t := by simp [peekI]
    rw [ep]
    dsimp only
    by_cases h7 : t = 135
    · subst h7
      rw [if_pos rfl, if_neg (by decide), if_neg (by decide), if_neg (by decide), if_neg (by decide)]
      exact .refl (fun _ => trivial)
    rw [if_neg h7]
    by_cases h0 : t = 160
    · subst h0
      have h := (hk 160 ((160, b) :: r) false).map (fun z => Fil.mk 0 [] [] [] z)
      unfold filtT
      simpa [kindT_0] using h
    by_cases h1 : t = 161
    · subst h1
      have h := (hk 161 ((161, b) :: r) false).map (fun z => Fil.mk 1 [] [] [] z)
      unfold filtT
      simpa [kindT_1] using h
    by_cases h2 : t = 162
    · subst h2
      have h := (hk 162 ((162, b) :: r) false).map (fun z => Fil.mk 2 [] [] [] z)
      unfold filtT
      simpa [kindT_2] using h
    by_cases h3 : t = 163
    · subst h3
      have h := (pair_eqv 163 ((163, b) :: r) false).map (fun z => Fil.mk 3 z.1 z.2 [] [])
      unfold filtT
      simpa [kindT_3] using h
    by_cases h5 : t = 165
    · subst h5
      have h := (pair_eqv 165 ((165, b) :: r) false).map (fun z => Fil.mk 5 z.1 z.2 [] [])
      unfold filtT
      simpa [kindT_5] using h
    by_cases h6 : t = 166
    · subst h6
      have h := (pair_eqv 166 ((166, b) :: r) false).map (fun z => Fil.mk 6 z.1 z.2 [] [])
      unfold filtT
      simpa [kindT_6] using h
    by_cases h8 : t = 168
    · subst h8
      have h := (pair_eqv 168 ((168, b) :: r) false).map (fun z => Fil.mk 3 z.1 z.2 [] [])
      unfold filtT
      simpa [kindT_3] using h
    by_cases h4 : t = 164
    · subst h4
      have h := (leaf_eqv 164 ((164, b) :: r) false).map (fun z => Fil.mk 4 z.1 [] z.2 [])
      unfold filtT
      simpa [kindT_4] using h
    rw [if_neg (by simp [h0, h1, h2]), if_neg (by simp [h3, h5, h6]), if_neg h8, if_neg h4, takeI_other h7]
    exact .bad (filtT_bad r h8 h0 h1 h2 h3 h4 h5 h6) rfl
end Go.Ms
set_option linter.unusedVariables false
namespace Go.Ms
open Go.Vk
open Go.Fi (Fil)
theorem filtP_w (n : Nat) (l : List It) (bad : Bool) : wI (filtP n l bad).2.1 ≤ wI l ∧ (filtP n l bad).2.1.length ≤ l.length := by
  cases n with
  | zero => exact ⟨Nat.le_refl _, Nat.le_refl _⟩
  | succ n =>
    cases l with
    | nil => exact ⟨Nat.le_refl _, Nat.le_refl _⟩
    | cons x r =>
      have h0 : wI r ≤ wI (x :: r) := by rw [wI_cons]; omega
      have h1 : r.length ≤ (x :: r).length := by simp
      have hI : ∀ {α : Type} (k : List It → Bool → α × List It × Bool), wI (innM true x.1 k (x :: r) false).2.1 ≤ wI (x :: r) ∧ (innM true x.1 k (x :: r) false).2.1.length ≤ (x :: r).length := fun k => ⟨innM_w _ _ _ _ _, takeI_len _ _ _⟩
      unfold filtP
      split
      · exact ⟨Nat.le_refl _, Nat.le_refl _⟩
      split
      · exact ⟨h0, h1⟩
      unfold filtT
      generalize (if x.1 = 168 then (163 : UInt8) else x.1) = tg
      dsimp only
      split
      · exact ⟨h0, h1⟩
      split
      · exact hI _
      split
      · exact hI _
      split
      · exact hI _
      · exact ⟨h0, h1⟩
theorem filtP_eats (n : Nat) : Eats (filtP n) := by
  intro l h
  cases n with
  | zero => cases h
  | succ n =>
    cases l with
    | nil => cases h
    | cons x r =>
      have h1 : r.length < (x :: r).length := by simp
      unfold filtP at h ⊢
      rw [if_neg (by simp)] at h ⊢
      split
      · exact h1
      rename_i h7
      rw [if_neg h7] at h
      unfold filtT at h ⊢
      generalize (if x.1 = 168 then (163 : UInt8) else x.1) = tg at h ⊢
      dsimp only at h ⊢
      split
      · exact h1
      rename_i g1
      rw [if_neg g1] at h
      split
      · rename_i g2
        rw [if_pos g2] at h
        exact innM_eats _ _ _ _ h
      rename_i g2
      rw [if_neg g2] at h
      split
      · rename_i g3
        rw [if_pos g3] at h
        exact innM_eats _ _ _ _ h
      rename_i g3
      rw [if_neg g3] at h
      split
      · rename_i g4
        rw [if_pos g4] at h
        exact innM_eats _ _ _ _ h
      · exact h1
theorem inn_at {α : Type} {x : It} {r : List It} (k : List It → Bool → α × List It × Bool) : innM true x.1 k (x :: r) false = ((k (allI x.2) (badI x.2)).1, r, endI false (k (allI x.2) (badI x.2)).2.2 (k (allI x.2) (badI x.2)).2.1) := by
  have e : takeI (x :: r) false x.1 = (x.2, r, false) := by
    show (if false = false ∧ x.1 = x.1 then (x.2, r, false) else ([], x :: r, true)) = _
    rw [if_pos ⟨rfl, rfl⟩]
  unfold innM
  rw [e]
  dsimp only [xbM, pbM]
  rw [Bool.or_false]
end Go.Ms
set_option maxRecDepth 8000
set_option linter.unusedVariables false
namespace Go.Proofs.YtkpghepeagafoaaGreat
open Go.Vk
attribute [local irreducible] HT HX RegS RegA RegM OpP OpC AltT
attribute [local irreducible] Ber.tagB Ber.lenB Ber.intB Ber.allE Ber.fromIntB Ber.nextB Ms.midB Ms.kindT Ms.textI
/-- The contract of a reader of filters that hold others so deep. -/
def FiltC (n : Nat) : Prop := ∀ (g : Nat) (l : List Ms.It) (bad : Bool), Ms.wI l ≤ 100000000 → CallsC Tryz.prog 91 [Is (pAt g 0), okI .i64 (16 - (n : Int))] [IX g l bad] (fun _ => TAgg (Fi.cF (Ms.filtP n l bad).1)) (fun _ => [IX g (Ms.filtP n l bad).2.1 (Ms.filtP n l bad).2.2])
theorem zFilO : TAgg (Fi.cF Fi.zeroF) = TAgg [okI .i64 0, Is (str []), Is (str []), TSl 1 Fi.cS [], TSl 5 Fi.cF []] := Fi.cF_open Fi.zeroF
set_option maxHeartbeats 2000000 in
theorem miFilt0 (n : Nat) (g : Nat) (l : List Ms.It) (bad : Bool) (hl : Ms.wI l ≤ 100000000) (hc : n = 0 ∨ l = [] ∨ bad = true) (hn : n ≤ 16) : CallsC Tryz.prog 91 [Is (pAt g 0), okI .i64 (16 - (n : Int))] [IX g l bad] (fun _ => TAgg (Fi.cF (Ms.filtP n l bad).1)) (fun _ => [IX g (Ms.filtP n l bad).2.1 (Ms.filtP n l bad).2.2]) := by
  have e : Ms.filtP n l bad = (Fi.zeroF, l, true) := by
    cases n with
    | zero => rfl
    | succ n =>
      cases l with
      | nil => rfl
      | cons x r =>
        have : bad = true := by simpa using hc
        rw [this]; rfl
  rw [e]
  dsimp only
  rw [zFilO]
  have hle := Ms.wI_len l
  clear e
  have fin : True := trivial
  cases bad with
  | true =>
    clear hc
    refine CallsC.of Tryz.call91 Tryz.func91 rfl Tryz.ntmps91 rfl fun w0 G0 S0 hs ho => ?_
    exact run trivial
  | false =>
    by_cases h0 : l.length = 0
    · have h0' : (l.length : Int) = 0 := by omega
      clear hc
      refine CallsC.of Tryz.call91 Tryz.func91 rfl Tryz.ntmps91 rfl fun w0 G0 S0 hs ho => ?_
      exact run trivial
    · have hn0 : n = 0 := by
        rcases hc with h | h | h
        · exact h
        · rw [h] at h0; exact absurd rfl h0
        · cases h
      subst hn0
      clear hc
      refine CallsC.of Tryz.call91 Tryz.func91 rfl Tryz.ntmps91 rfl fun w0 G0 S0 hs ho => ?_
      exact run trivial
set_option maxHeartbeats 2000000 in
theorem miFilt7 (n : Nat) (g : Nat) (x : Ms.It) (r : List Ms.It) (hl : Ms.wI (x :: r) ≤ 100000000) (ht : x.1 = 135) (hn : n + 1 ≤ 16) : CallsC Tryz.prog 91 [Is (pAt g 0), okI .i64 (16 - ((n + 1 : Nat) : Int))] [IX g (x :: r) false] (fun _ => TAgg (Fi.cF (Ms.filtP (n + 1) (x :: r) false).1)) (fun _ => [IX g (Ms.filtP (n + 1) (x :: r) false).2.1 (Ms.filtP (n + 1) (x :: r) false).2.2]) := by
  have e : Ms.filtP (n + 1) (x :: r) false = (.mk 7 x.2 [] [] [], r, false) := by
    conv => lhs; unfold Ms.filtP
    rw [if_neg (by simp), if_pos ht]
  rw [e]
  clear e
  dsimp only
  rw [Fi.cF_open]
  dsimp only [Fi.Fil.kind, Fi.Fil.typ, Fi.Fil.val, Fi.Fil.subs, Fi.Fil.kids]
  have hle := Ms.wI_len (x :: r)
  have c1 := fun g => miTake g (x :: r) false 135 (by omega)
  have et : Ms.takeI (x :: r) false 135 = (x.2, r, false) := by
    show (if false = false ∧ x.1 = 135 then (x.2, r, false) else ([], x :: r, true)) = _
    rw [if_pos ⟨rfl, ht⟩]
  rw [et] at c1
  dsimp only at c1
  clear et
  obtain ⟨l, hx⟩ : ∃ l : List Ms.It, l = x :: r := ⟨_, rfl⟩
  have f1 : ¬ (l.length : Int) = 0 := by rw [hx]; simp; omega
  have f2 : ((l.getD 0 default).1.toNat : Int) = 135 := by rw [hx, List.getD_cons_zero, ht]; rfl
  have f3 : ((l.getD (nat_lit 0) default).1.toNat : Int) = 135 := f2
  have c2 : ∀ g, CallsC Tryz.prog 48 [Is (pAt g 0), okI .u8 ((l.getD 0 default).1.toNat : Int)] [IX g l false] (fun _ => TBytes x.2) (fun _ => [IX g r false]) := by rw [f2, hx]; exact c1
  rw [← hx] at hle ⊢
  clear c1 hx
  refine CallsC.of Tryz.call91 Tryz.func91 rfl Tryz.ntmps91 rfl fun w0 G0 S0 hs ho => ?_
  exact run trivial
set_option maxHeartbeats 4000000 in
theorem miFiltS (n : Nat) (g : Nat) (x : Ms.It) (r : List Ms.It) (hl : Ms.wI (x :: r) ≤ 100000000) (ht : x.1 ≠ 135) (hn : n + 1 ≤ 16) (IH : FiltC n) : CallsC Tryz.prog 91 [Is (pAt g 0), okI .i64 (16 - ((n + 1 : Nat) : Int))] [IX g (x :: r) false] (fun _ => TAgg (Fi.cF (Ms.filtP (n + 1) (x :: r) false).1)) (fun _ => [IX g (Ms.filtP (n + 1) (x :: r) false).2.1 (Ms.filtP (n + 1) (x :: r) false).2.2]) := by
  have e : Ms.filtP (n + 1) (x :: r) false = Ms.filtT (Ms.filtP n) x r := by
    conv => lhs; unfold Ms.filtP
    rw [if_neg (by simp), if_neg ht]
  rw [e]
  clear e
  unfold Ms.filtT
  rw [Ms.inn_at, Ms.inn_at, Ms.inn_at]
  have hle := Ms.wI_len (x :: r)
  have et : Ms.takeI (x :: r) false x.1 = (x.2, r, false) := by
    show (if false = false ∧ x.1 = x.1 then (x.2, r, false) else ([], x :: r, true)) = _
    rw [if_pos ⟨rfl, rfl⟩]
  have c1 := fun g => miInner g (x :: r) false x.1 hl
  rw [et] at c1
  dsimp only at c1
  rw [Bool.or_false] at c1
  have hw2 := Ms.inner_w (x :: r) false x.1
  rw [et] at hw2
  dsimp only at hw2
  clear et
  obtain ⟨l, hx⟩ : ∃ l : List Ms.It, l = x :: r := ⟨_, rfl⟩
  have f1 : ¬ (l.length : Int) = 0 := by rw [hx]; simp; omega
  have f0 : (l.getD 0 default).1 = x.1 := by rw [hx, List.getD_cons_zero]
  have f2 : ¬ ((l.getD 0 default).1.toNat : Int) = 135 := by
    rw [f0]
    intro h
    exact ht (UInt8.toNat_inj.1 (by have : ((135 : UInt8).toNat : Int) = 135 := rfl; omega))
  have f3 : ¬ ((l.getD (nat_lit 0) default).1.toNat : Int) = 135 := f2
  rw [← f0, ← hx] at c1
  rw [← hx] at hle hl hw2 ⊢
  generalize Ms.allI x.2 = x0 at c1 hw2 ⊢
  generalize Ms.badI x.2 = b0 at c1 ⊢
  by_cases h8 : (l.getD 0 default).1 = 168
  · have f4 : ((l.getD 0 default).1.toNat : Int) = 168 := by rw [h8]; rfl
    have f5 : ((l.getD (nat_lit 0) default).1.toNat : Int) = 168 := f4
    rw [← f0, if_pos h8]
    dsimp only
    rw [if_neg (by decide), if_neg (by rw [Ms.kindT_3]; decide), if_neg (by rw [Ms.kindT_3]; decide), if_pos (by rw [Ms.kindT_3]; decide), Ms.kindT_3]
    dsimp only
    rw [Fi.cF_open]
    dsimp only [Fi.Fil.kind, Fi.Fil.typ, Fi.Fil.val, Fi.Fil.subs, Fi.Fil.kids]
    have c2 := miText
    have hw3 := Ms.textI_w x0 b0
    have hw4 := Ms.textI_w (Ms.textI x0 b0).2.1 (Ms.textI x0 b0).2.2
    unfold Ms.pairK
    dsimp only
    have c4 := fun g g2 => miEnds g g2 r (Ms.textI (Ms.textI x0 b0).2.1 (Ms.textI x0 b0).2.2).2.1 false (Ms.textI (Ms.textI x0 b0).2.1 (Ms.textI x0 b0).2.2).2.2 (by omega)
    have k3 : (((163 : UInt8) &&& ~~~ (b8 160)).toNat : Int) = 3 := by decide +kernel
    refine CallsC.of Tryz.call91 Tryz.func91 rfl Tryz.ntmps91 rfl fun w0 G0 S0 hs ho => ?_
    refine run ?_
    intro v0 v1 _ _ _
    refine ⟨_, fun _ => op_andn8 (c := 163) rfl rfl (by decide), ?_⟩
    exact run trivial
  have f4 : ¬ ((l.getD 0 default).1.toNat : Int) = 168 := by
    intro h
    exact h8 (UInt8.toNat_inj.1 (by have : ((168 : UInt8).toNat : Int) = 168 := rfl; omega))
  have f5 : ¬ ((l.getD (nat_lit 0) default).1.toNat : Int) = 168 := f4
  rw [← f0, if_neg h8]
  have hk : (((l.getD 0 default).1 &&& ~~~ (b8 160)).toNat : Int) = Ms.kindT (l.getD 0 default).1 := by unfold Ms.kindT; rfl
  have hk' : (((l.getD (nat_lit 0) default).1 &&& ~~~ (b8 160)).toNat : Int) = Ms.kindT (l.getD 0 default).1 := hk
  dsimp only
  by_cases g0 : (l.getD 0 default).1.toNat < 160
  · rw [if_pos g0]
    dsimp only
    rw [Fi.cF_open]
    dsimp only [Fi.Fil.kind, Fi.Fil.typ, Fi.Fil.val, Fi.Fil.subs, Fi.Fil.kids]
    have g0' : ((l.getD (nat_lit 0) default).1.toNat : Int) < 160 := by show ((l.getD 0 default).1.toNat : Int) < 160; omega
    have c4 := fun g g2 => miEnds g g2 r x0 true b0 (by omega)
    refine CallsC.of Tryz.call91 Tryz.func91 rfl Tryz.ntmps91 rfl fun w0 G0 S0 hs ho => ?_
    refine run ?_
    intros
    rfl
  rw [if_neg g0]
  have g0' : ¬ ((l.getD (nat_lit 0) default).1.toNat : Int) < 160 := by show ¬ ((l.getD 0 default).1.toNat : Int) < 160; omega
  by_cases g2 : Ms.kindT (l.getD 0 default).1 ≤ 2
  · rw [if_pos g2]
    dsimp only
    rw [Fi.cF_open]
    dsimp only [Fi.Fil.kind, Fi.Fil.typ, Fi.Fil.val, Fi.Fil.subs, Fi.Fil.kids]
    have c2 : ∀ (g : Nat) (x : List Ms.It) (b : Bool), Ms.wI x ≤ 100000000 → CallsC Tryz.prog 91 [Is (pAt g 0), okI .i64 (16 - ((n + 1 : Nat) : Int) + 1)] [IX g x b] (fun _ => TAgg (Fi.cF (Ms.filtP n x b).1)) (fun _ => [IX g (Ms.filtP n x b).2.1 (Ms.filtP n x b).2.2]) := by
      rw [show (16 : Int) - ((n + 1 : Nat) : Int) + 1 = 16 - (n : Int) by omega]
      exact IH
    clear IH
    have hx0 := Ms.wI_len x0
    have pl := Plan.mk' 16 [(0,3,[]),(2,3,[]),(3,3,[]),(4,3,[]),(8,3,[]),(1,2,[1]),(5,0,[1]),(6,3,[]),(7,0,[]),(9,0,[])]
    refine CallsC.of Tryz.call91 Tryz.func91 rfl Tryz.ntmps91 rfl fun w0 G0 S0 hs ho => ?_
    refine run ?_
    intro vf vx _ _ _ _ _
    refine HT.loopX (σ := (List Fi.Fil × List Ms.It × Bool) × Value) [0, 1, 4, 6] (fun t' => []) (fun t' => [IX g r false, ownP (blk vf) 43 [okI .i64 (Ms.kindT (l.getD 0 default).1), Is (str []), Is (str []), Is (.slice none 0 0), TAnd (Is t'.2) (TSl 5 Fi.cF t'.1.1)], IX (blk vx) t'.1.2.1 t'.1.2.2, ownSl t'.2 5 43]) (fun t' => Ms.wI t'.1.2.1 ≤ Ms.wI l ∧ (t'.1.2.2 = false → t'.1.1.length + t'.1.2.1.length ≤ Ms.wI l) ∧ t'.1.1.length ≤ Ms.wI l + 1 ∧ t'.1.1 ++ (Ms.repA (Ms.filtP n) t'.1.2.1 t'.1.2.2).1 = (Ms.repA (Ms.filtP n) x0 b0).1 ∧ (Ms.repA (Ms.filtP n) t'.1.2.1 t'.1.2.2).2 = (Ms.repA (Ms.filtP n) x0 b0).2) (fun t' => t'.1.2.1.length + (if t'.1.2.2 then 0 else 1)) (([], x0, b0), .slice none 0 0) ⟨hw2, by intro _; dsimp only [List.length_nil]; omega, by simp, rfl, rfl⟩ (run trivial) (run trivial) ?_
    clear c1
    rintro ⟨⟨acc, x1, b1⟩, w⟩ ⟨h1, h2, h5, h3, h4⟩
    dsimp only at h1 h2 h3 h4 h5 ⊢
    by_cases hgo : x1 ≠ [] ∧ b1 = false
    · obtain ⟨hne, rfl⟩ := hgo
      rw [Ms.repA_go (Ms.filtP_eats n) hne] at h3 h4
      dsimp only at h3 h4
      have h2 := h2 rfl
      have c3 := fun g => c2 g x1 false (by omega)
      clear c2
      have hw3 := Ms.filtP_w n x1 false
      have hea := Ms.filtP_eats n x1
      generalize Ms.filtP n x1 false = z at c3 hw3 hea h3 h4
      have hxl : 0 < x1.length := List.length_pos_iff.2 hne
      refine run ?_
      intro v' _
      refine HX.roundX ((acc ++ [z.1], z.2.1, z.2.2), v') ⟨⟨by dsimp only; omega, fun hz => by have := hea hz; (try dsimp only at this); simp only [List.length_append, List.length_singleton]; omega, by simp only [List.length_append, List.length_singleton]; omega, by dsimp only; rw [List.append_assoc]; exact h3, h4⟩, ?_⟩ rfl (run trivial) (run trivial)
      dsimp only
      split
      · simp; omega
      · rename_i hz
        have := hea (by simpa using hz)
        (try dsimp only at this)
        simp; omega
    · have hend := Ms.repA_end (step := Ms.filtP n) hgo
      rw [hend] at h3 h4
      rw [List.append_nil] at h3
      dsimp only at h4
      rw [← h3, ← h4]
      have c4 := fun g g2 => miEnds g g2 r x1 false b1 (by omega)
      refine run ?_
      intro _ hh
      exact absurd ⟨fun e => by rw [e] at hh; simp at hh, hh.2⟩ hgo
  rw [if_neg g2]
  by_cases g4 : Ms.kindT (l.getD 0 default).1 = 4
  · rw [if_pos g4]
    dsimp only
    rw [Fi.cF_open]
    dsimp only [Fi.Fil.kind, Fi.Fil.typ, Fi.Fil.val, Fi.Fil.subs, Fi.Fil.kids]
    have c2 := fun g => miText g x0 b0 (by omega)
    have hw3 := Ms.textI_w x0 b0
    unfold Ms.leafK
    dsimp only
    generalize Ms.textI x0 b0 = a at c2 hw3 ⊢
    have c3 := fun g => miPieces g a.2.1 a.2.2 (by omega)
    have hw4 : Ms.wI (Ms.subsM true a.2.1 a.2.2).2.1 ≤ Ms.wI a.2.1 := Ms.innM_w _ _ _ _ _
    generalize Ms.subsM true a.2.1 a.2.2 = a2 at c3 hw4 ⊢
    have c4 := fun g g2 => miEnds g g2 r a2.2.1 false a2.2.2 (by omega)
    refine CallsC.of Tryz.call91 Tryz.func91 rfl Tryz.ntmps91 rfl fun w0 G0 S0 hs ho => ?_
    exact run trivial
  rw [if_neg g4]
  by_cases g6 : Ms.kindT (l.getD 0 default).1 ≤ 6
  · rw [if_pos g6]
    dsimp only
    rw [Fi.cF_open]
    dsimp only [Fi.Fil.kind, Fi.Fil.typ, Fi.Fil.val, Fi.Fil.subs, Fi.Fil.kids]
    have c2 := miText
    have hw3 := Ms.textI_w x0 b0
    have hw4 := Ms.textI_w (Ms.textI x0 b0).2.1 (Ms.textI x0 b0).2.2
    unfold Ms.pairK
    dsimp only
    have c4 := fun g g2 => miEnds g g2 r (Ms.textI (Ms.textI x0 b0).2.1 (Ms.textI x0 b0).2.2).2.1 false (Ms.textI (Ms.textI x0 b0).2.1 (Ms.textI x0 b0).2.2).2.2 (by omega)
    refine CallsC.of Tryz.call91 Tryz.func91 rfl Tryz.ntmps91 rfl fun w0 G0 S0 hs ho => ?_
    exact run trivial
  · rw [if_neg g6]
    dsimp only
    rw [Fi.cF_open]
    dsimp only [Fi.Fil.kind, Fi.Fil.typ, Fi.Fil.val, Fi.Fil.subs, Fi.Fil.kids]
    have c4 := fun g g2 => miEnds g g2 r x0 true b0 (by omega)
    refine CallsC.of Tryz.call91 Tryz.func91 rfl Tryz.ntmps91 rfl fun w0 G0 S0 hs ho => ?_
    refine run ?_
    intros
    rfl
theorem miFilter : ∀ n : Nat, n ≤ 16 → FiltC n
  | 0, _ => fun g l bad hl => miFilt0 0 g l bad hl (.inl rfl) (by decide)
  | n + 1, hn => fun g l bad hl => by
    cases l with
    | nil => exact miFilt0 (n + 1) g [] bad hl (.inr (.inl rfl)) hn
    | cons x r =>
      cases bad with
      | true => exact miFilt0 (n + 1) g (x :: r) true hl (.inr (.inr rfl)) hn
      | false =>
        by_cases h7 : x.1 = 135
        · exact miFilt7 n g x r hl h7 hn
        · exact miFiltS n g x r hl h7 hn (miFilter n (by omega))
end Go.Proofs.YtkpghepeagafoaaGreat
set_option linter.unusedVariables false
namespace Go.Ms
open Go.Vk
open Go.Fi (Fil)
/-! ### operations -/
abbrev mostN : Int := 2147483647
def bindP (l : List It) (bad : Bool) : Req × List It × Bool :=
  let n := numI l bad 2
  let d := textI n.2.1 (decide (n.1 ≠ 3) || n.2.2)
  let p := takeI d.2.1 d.2.2 128
  ({ zR with kind := 0, dn := d.1, pass := p.1 }, p.2)
def bindD (l : List It) (bad : Bool) : Req × List It × Bool :=
  let n := numR l bad 2 3 3
  let d := textI n.2.1 n.2.2
  let p := takeI d.2.1 d.2.2 128
  ({ zR with kind := 0, dn := d.1, pass := p.1 }, p.2)
def srchP (l : List It) (bad : Bool) : Req × List It × Bool :=
  let d := textI l bad
  let s := numI d.2.1 d.2.2 10
  let a := numI s.2.1 s.2.2 10
  let m := numI a.2.1 a.2.2 2
  let t := numI m.2.1 m.2.2 2
  let b := truthI t.2.1 t.2.2
  let f := filtP 16 b.2.1 b.2.2
  let w := textsM true 48 f.2.1 f.2.2
  ({ zR with kind := 3, dn := d.1, scope := s.1, limit := m.1, fil := f.1, want := w.1 }, w.2.1, w.2.2 || decide (a.1 < 0) || decide (3 < a.1) || !numB t.1 0)
def srchD (l : List It) (bad : Bool) : Req × List It × Bool :=
  let d := textI l bad
  let s := numR d.2.1 d.2.2 10 0 2
  let a := numR s.2.1 s.2.2 10 0 3
  let m := numR a.2.1 a.2.2 2 0 mostN
  let t := numR m.2.1 m.2.2 2 0 mostN
  let b := truthI t.2.1 t.2.2
  let f := filtD 16 b.2.1 b.2.2
  let w := textsM false 48 f.2.1 f.2.2
  ({ zR with kind := 3, dn := d.1, scope := s.1, limit := m.1, fil := f.1, want := w.1 }, w.2)
def modfM (m : Bool) (l : List It) (bad : Bool) : Req × List It × Bool :=
  let d := textI l bad
  let s := modsM m d.2.1 d.2.2
  ({ zR with kind := 6, dn := d.1, mods := s.1 }, s.2)
def addM (m : Bool) (l : List It) (bad : Bool) : Req × List It × Bool :=
  let d := textI l bad
  let s := attrsM m d.2.1 d.2.2
  ({ zR with kind := 8, dn := d.1, attrs := s.1 }, s.2)
def renI (l : List It) (bad : Bool) : Req × List It × Bool :=
  let d := textI l bad
  let n := textI d.2.1 d.2.2
  let k := truthI n.2.1 n.2.2
  let u := mayI k.2.1 k.2.2 128
  ({ zR with kind := 12, dn := d.1, rdn := n.1, keep := !k.1, above := isI k.2.1 k.2.2 128, up := u.1 }, u.2)
def cmpM (m : Bool) (l : List It) (bad : Bool) : Req × List It × Bool :=
  let d := textI l bad
  let a := innM m 48 pairK d.2.1 d.2.2
  ({ zR with kind := 14, dn := d.1, avaT := a.1.1, avaV := a.1.2 }, a.2)
def opKP (k : Int) (l : List It) (bad : Bool) : Req × List It × Bool :=
  if k = 0 then bindP l bad else if k = 3 then srchP l bad else if k = 6 then modfM true l bad else if k = 8 then addM true l bad else if k = 12 then renI l bad else if k = 14 then cmpM true l bad else ({ zR with kind := k }, l, true)
/-- What a request asks, by the program. -/
def opP : List It → Bool → Req × List It × Bool
  | [], _ => (zR, [], true)
  | x :: r, bad => if bad = true then (zR, x :: r, true)
    else if x.1 = 66 then ({ zR with kind := 2 }, r, decide (0 < x.2.length))
    else if x.1 = 74 then ({ zR with kind := 10, dn := x.2 }, r, false)
    else if x.1 = 80 then let n := numI (x :: r) false 80; ({ zR with kind := 16, which := n.1 }, n.2)
    else innM true x.1 (opKP ((x.1.toNat : Int) - 96)) (x :: r) false
/-- What a request asks, by the document. -/
def opD (l : List It) (bad : Bool) : Req × List It × Bool :=
  let t := peekI l bad
  if t = 96 then innM false t bindD l bad
  else if t = 66 then let y := takeI l bad 66; ({ zR with kind := 2 }, y.2.1, y.2.2 || decide (0 < y.1.length))
  else if t = 99 then innM false t srchD l bad
  else if t = 102 then innM false t (modfM false) l bad
  else if t = 104 then innM false t (addM false) l bad
  else if t = 74 then let y := takeI l bad 74; ({ zR with kind := 10, dn := y.1 }, y.2)
  else if t = 108 then innM false t renI l bad
  else if t = 110 then innM false t (cmpM false) l bad
  else let n := numR l bad 80 0 mostN; ({ zR with kind := 16, which := n.1 }, n.2)
/-- What Is says of some numbers. -/
def okO (r : Req) : Prop := (0 ≤ r.scope ∧ r.scope ≤ 2) ∧ (0 ≤ r.limit ∧ r.limit ≤ mostN) ∧ (0 ≤ r.which ∧ r.which ≤ mostN) ∧ ∀ m ∈ r.mods, okM m
theorem okO_z : okO zR := by unfold okO zR mostN; simp
theorem takeI_bad2 (l : List It) (t : UInt8) : (takeI l true t).2.2 = true := by rw [takeI_bad]
theorem truthI_bad (l : List It) : (truthI l true).2.2 = true := by unfold truthI; rw [takeI_bad]; rfl
theorem filtP_bad (n : Nat) (l : List It) : (filtP n l true).2.2 = true := by
  cases n with
  | zero => rfl
  | succ n => cases l with
    | nil => rfl
    | cons x r => rfl
theorem filtD_bad (n : Nat) (l : List It) : (filtD n l true).2.2 = true := by
  have h := filt_eqv n l true
  cases hb : (filtD n l true).2.2 with
  | true => rfl
  | false =>
    have := (h.1 hb).1
    have h2 := filtP_bad n l
    rw [this, hb] at h2
    cases h2
theorem numR_bad (l : List It) (t : UInt8) (lo hi : Int) : (numR l true t lo hi).2.2 = true := by unfold numR; rw [numI_bad]; rfl
theorem bindP_bad (l : List It) : (bindP l true).2.2 = true := by
  unfold bindP textI
  dsimp only
  simp only [numI_bad, Bool.or_true, takeI_bad2]
theorem srchP_bad (l : List It) : (srchP l true).2.2 = true := by
  unfold srchP textI
  dsimp only
  simp only [takeI_bad2, numI_bad, truthI_bad, filtP_bad, textsM, innM_bad, Bool.true_or]
theorem modfM_bad (m : Bool) (l : List It) : (modfM m l true).2.2 = true := by
  unfold modfM textI modsM
  dsimp only
  simp only [takeI_bad2, innM_bad]
theorem addM_bad (m : Bool) (l : List It) : (addM m l true).2.2 = true := by
  unfold addM textI attrsM
  dsimp only
  simp only [takeI_bad2, innM_bad]
theorem renI_bad (l : List It) : (renI l true).2.2 = true := by
  unfold renI textI
  dsimp only
  simp only [takeI_bad2, truthI_bad, mayI_bad]
theorem cmpM_bad (m : Bool) (l : List It) : (cmpM m l true).2.2 = true := by
  unfold cmpM textI
  dsimp only
  simp only [takeI_bad2, innM_bad]
theorem bind_eqv (l : List It) : EqvR okO (bindP l false) (bindD l false) := by
  have e : ∀ h : (numI l false 2).1 = 3 ∧ (numI l false 2).2.2 = false, bindP l false = bindD l false := fun h => by
    unfold bindP bindD
    rw [numR_of h.2 (by omega)]
    dsimp only
    rw [h.1, h.2]
    rfl
  have ok : okO (bindP l false).1 := by unfold bindP okO zR mostN; simp
  refine ⟨fun h1 => ?_, fun h1 _ => ?_⟩
  · cases hb : (numR l false 2 3 3).2.2 with
    | true =>
      unfold bindD textI at h1
      dsimp only at h1
      rw [hb, takeI_bad2, takeI_bad2] at h1
      cases h1
    | false =>
      obtain ⟨g1, g2, g3, _⟩ := numR_f hb
      have := e ⟨by omega, g1⟩
      exact ⟨this, ok⟩
  · cases hb : (decide ((numI l false 2).1 ≠ 3) || (numI l false 2).2.2) with
    | true =>
      unfold bindP textI at h1
      dsimp only at h1
      rw [hb, takeI_bad2, takeI_bad2] at h1
      cases h1
    | false =>
      simp only [Bool.or_eq_false_iff, decide_eq_false_iff_not, ne_eq, Decidable.not_not] at hb
      exact (e hb).symm
theorem textsM_bad (m : Bool) (t : UInt8) (l : List It) : (textsM m t l true).2.2 = true := innM_bad _ _ _ _
theorem srch_eqv (l : List It) : EqvR okO (srchP l false) (srchD l false) := by
  unfold srchP srchD
  generalize textI l false = d
  dsimp only
  refine ⟨fun h1 => ?_, fun h1 h2 => ?_⟩
  · dsimp only at h1
    by_cases hs : (numR d.2.1 d.2.2 10 0 2).2.2 = true
    · simp only [hs, numR_bad, truthI_bad, filtD_bad, textsM_bad] at h1; cases h1
    obtain ⟨s1, s2, s3, s4⟩ := numR_f (by simpa using hs)
    rw [s4] at h1 ⊢
    generalize numI d.2.1 d.2.2 10 = s at h1 s1 s2 s3 ⊢
    by_cases ha : (numR s.2.1 s.2.2 10 0 3).2.2 = true
    · simp only [ha, numR_bad, truthI_bad, filtD_bad, textsM_bad] at h1; cases h1
    obtain ⟨a1, a2, a3, a4⟩ := numR_f (by simpa using ha)
    rw [a4] at h1 ⊢
    generalize numI s.2.1 s.2.2 10 = a at h1 a1 a2 a3 ⊢
    by_cases hm : (numR a.2.1 a.2.2 2 0 mostN).2.2 = true
    · simp only [hm, numR_bad, truthI_bad, filtD_bad, textsM_bad] at h1; cases h1
    obtain ⟨m1, m2, m3, m4⟩ := numR_f (by simpa using hm)
    rw [m4] at h1 ⊢
    generalize numI a.2.1 a.2.2 2 = m at h1 m1 m2 m3 ⊢
    by_cases ht : (numR m.2.1 m.2.2 2 0 mostN).2.2 = true
    · simp only [ht, numR_bad, truthI_bad, filtD_bad, textsM_bad] at h1; cases h1
    obtain ⟨t1, t2, t3, t4⟩ := numR_f (by simpa using ht)
    rw [t4] at h1 ⊢
    generalize numI m.2.1 m.2.2 2 = t at h1 t1 t2 t3 ⊢
    generalize truthI t.2.1 t.2.2 = b at h1 ⊢
    by_cases hf : (filtD 16 b.2.1 b.2.2).2.2 = true
    · simp only [hf, textsM_bad] at h1; cases h1
    have f1 := ((filt_eqv 16 b.2.1 b.2.2).1 (by simpa using hf)).1
    rw [f1]
    generalize filtD 16 b.2.1 b.2.2 = f at h1 hf ⊢
    have w1 := ((texts_eqv 48 f.2.1 f.2.2).1 h1).1
    rw [w1]
    generalize textsM false 48 f.2.1 f.2.2 = w at h1 ⊢
    refine ⟨?_, ?_⟩
    · congr 2
      rw [h1]
      unfold numB
      simp only [Bool.false_or, Bool.or_eq_false_iff, decide_eq_false_iff_not, Bool.not_eq_false', Bool.and_eq_true, decide_eq_true_eq]
      unfold mostN at *
      omega
    · exact ⟨⟨s2, s3⟩, ⟨m2, m3⟩, by unfold zR mostN; simp, by unfold zR; simp⟩
  · dsimp only at h1 h2
    obtain ⟨⟨s2, s3⟩, ⟨m2, m3⟩, _⟩ := h2
    dsimp only at s2 s3 m2 m3
    simp only [Bool.or_eq_false_iff, decide_eq_false_iff_not, Bool.not_eq_false'] at h1
    obtain ⟨⟨⟨h1, a2⟩, a3⟩, t2⟩ := h1
    unfold numB at t2
    simp only [Bool.and_eq_true, decide_eq_true_eq] at t2
    have e : numR d.2.1 d.2.2 10 0 2 = numI d.2.1 d.2.2 10 := by
      cases hb : (numI d.2.1 d.2.2 10).2.2 with
      | false => exact numR_of hb ⟨s2, s3⟩
      | true => simp only [hb, numI_bad, truthI_bad, filtP_bad, textsM_bad] at h1; cases h1
    rw [e]
    generalize numI d.2.1 d.2.2 10 = s at h1 a2 a3 t2 m2 m3 ⊢
    have e : numR s.2.1 s.2.2 10 0 3 = numI s.2.1 s.2.2 10 := by
      cases hb : (numI s.2.1 s.2.2 10).2.2 with
      | false => exact numR_of hb ⟨by omega, by omega⟩
      | true => simp only [hb, numI_bad, truthI_bad, filtP_bad, textsM_bad] at h1; cases h1
    rw [e]
    generalize numI s.2.1 s.2.2 10 = a at h1 a2 a3 t2 m2 m3 ⊢
    have e : numR a.2.1 a.2.2 2 0 mostN = numI a.2.1 a.2.2 2 := by
      cases hb : (numI a.2.1 a.2.2 2).2.2 with
      | false => exact numR_of hb ⟨m2, m3⟩
      | true => simp only [hb, numI_bad, truthI_bad, filtP_bad, textsM_bad] at h1; cases h1
    rw [e]
    generalize numI a.2.1 a.2.2 2 = m at h1 t2 m2 m3 ⊢
    have e : numR m.2.1 m.2.2 2 0 mostN = numI m.2.1 m.2.2 2 := by
      cases hb : (numI m.2.1 m.2.2 2).2.2 with
      | false => exact numR_of hb t2
      | true => simp only [hb, numI_bad, truthI_bad, filtP_bad, textsM_bad] at h1; cases h1
    rw [e]
    generalize numI m.2.1 m.2.2 2 = t at h1 t2 ⊢
    generalize truthI t.2.1 t.2.2 = b at h1 ⊢
    have e : filtD 16 b.2.1 b.2.2 = filtP 16 b.2.1 b.2.2 := by
      cases hb : (filtP 16 b.2.1 b.2.2).2.2 with
      | false => exact (filt_eqv 16 b.2.1 b.2.2).2 hb trivial
      | true => simp only [hb, textsM_bad] at h1; cases h1
    rw [e]
    generalize filtP 16 b.2.1 b.2.2 = f at h1 ⊢
    rw [(texts_eqv 48 f.2.1 f.2.2).2 h1 trivial]
    generalize textsM true 48 f.2.1 f.2.2 = w at h1 ⊢
    have e3 : (w.2.2 || decide (a.1 < 0) || decide (3 < a.1) || !numB t.1 0) = w.2.2 := by
      rw [h1]
      unfold numB
      simp only [Bool.false_or, Bool.or_eq_false_iff, decide_eq_false_iff_not, Bool.not_eq_false', Bool.and_eq_true, decide_eq_true_eq]
      omega
    rw [e3]
theorem modf_eqv (l : List It) : EqvR okO (modfM true l false) (modfM false l false) := by
  unfold modfM
  generalize textI l false = d
  have h := mods_eqv d.2.1 d.2.2
  dsimp only
  refine ⟨fun h1 => ?_, fun h1 h2 => ?_⟩
  · dsimp only at h1
    obtain ⟨g1, g2⟩ := h.1 h1
    rw [g1] at g2 ⊢
    exact ⟨rfl, ⟨by unfold zR; simp, by unfold zR mostN; simp, by unfold zR mostN; simp, g2⟩⟩
  · dsimp only at h1
    rw [h.2 h1 h2.2.2.2]
theorem add_eqv (l : List It) : EqvR okO (addM true l false) (addM false l false) := by
  unfold addM
  generalize textI l false = d
  have h := attrs_eqv d.2.1 d.2.2
  dsimp only
  refine ⟨fun h1 => ?_, fun h1 h2 => ?_⟩
  · dsimp only at h1
    obtain ⟨g1, g2⟩ := h.1 h1
    rw [g1]
    exact ⟨rfl, by unfold okO zR mostN; simp⟩
  · dsimp only at h1
    rw [h.2 h1 trivial]
theorem ren_eqv (l : List It) : EqvR okO (renI l false) (renI l false) := .refl (fun _ => by unfold renI okO zR mostN; simp)
theorem cmp_eqv (l : List It) : EqvR okO (cmpM true l false) (cmpM false l false) := by
  unfold cmpM
  generalize textI l false = d
  have h := pair_eqv 48 d.2.1 d.2.2
  dsimp only
  refine ⟨fun h1 => ?_, fun h1 h2 => ?_⟩
  · dsimp only at h1
    obtain ⟨g1, g2⟩ := h.1 h1
    rw [g1]
    exact ⟨rfl, by unfold okO zR mostN; simp⟩
  · dsimp only at h1
    rw [h.2 h1 trivial]
theorem opKP_bad (k : Int) (l : List It) : (opKP k l true).2.2 = true := by
  unfold opKP
  split
  · exact bindP_bad l
  split
  · exact srchP_bad l
  split
  · exact modfM_bad _ l
  split
  · exact addM_bad _ l
  split
  · exact renI_bad l
  split
  · exact cmpM_bad _ l
  · rfl
end Go.Ms
set_option linter.unusedVariables false
namespace Go.Ms
open Go.Vk
open Go.Fi (Fil)
theorem peek_true (l : List It) : peekI l true = 0 := by cases l <;> simp [peekI]
theorem opD_none {l : List It} {bad : Bool} (h : peekI l bad = 0) (h2 : (takeI l bad 80).2.2 = true) : (opD l bad).2.2 = true := by
  unfold opD
  rw [h]
  have e : (numR l bad 80 0 mostN).2.2 = true := by unfold numR numI; rw [h2]; rfl
  simpa using e
theorem op_inn {t : UInt8} {k : Int} {kD : List It → Bool → Req × List It × Bool} (hk : ∀ l, EqvR okO (opKP k l false) (kD l false)) (l : List It) (bad : Bool) : EqvR okO (innM true t (opKP k) l bad) (innM false t kD l bad) := innM_eqv hk (opKP_bad k) l bad
theorem op_eqv (l : List It) (bad : Bool) : EqvR okO (opP l bad) (opD l bad) := by
  cases l with
  | nil => exact .bad rfl (opD_none rfl rfl)
  | cons x r =>
    cases bad with
    | true => exact .bad rfl (opD_none (peek_true _) (takeI_bad2 _ _))
    | false =>
      obtain ⟨t, b⟩ := x
      have ep : peekI ((t, b) :: r) false = t := by simp [peekI]
      have et : takeI ((t, b) :: r) false t = (b, r, false) := by
        show (if false = false ∧ t = t then (b, r, false) else ([], (t, b) :: r, true)) = _
        rw [if_pos ⟨rfl, rfl⟩]
      unfold opP opD
      rw [ep]
      dsimp only
      rw [if_neg (by simp)]
      by_cases h1 : t = 66
      · subst h1
        rw [if_pos rfl, if_neg (by decide), if_pos rfl, et]
        exact .refl (fun _ => ⟨by unfold zR; simp, by unfold zR mostN; simp, by unfold zR mostN; simp, by unfold zR; simp⟩)
      rw [if_neg h1]
      by_cases h2 : t = 74
      · subst h2
        rw [if_pos rfl, if_neg (by decide), if_neg (by decide), if_neg (by decide), if_neg (by decide), if_neg (by decide), if_pos rfl, et]
        exact .refl (fun _ => ⟨by unfold zR; simp, by unfold zR mostN; simp, by unfold zR mostN; simp, by unfold zR; simp⟩)
      rw [if_neg h2]
      by_cases h3 : t = 80
      · subst h3
        rw [if_pos rfl, if_neg (by decide), if_neg (by decide), if_neg (by decide), if_neg (by decide), if_neg (by decide), if_neg (by decide), if_neg (by decide), if_neg (by decide)]
        refine ⟨fun g => ?_, fun g1 g2 => ?_⟩
        · obtain ⟨g1, g2, g3, g4⟩ := numR_f g
          rw [g4]
          exact ⟨rfl, ⟨by unfold zR; simp, by unfold zR mostN; simp, ⟨g2, g3⟩, by unfold zR; simp⟩⟩
        · rw [numR_of g1 g2.2.2.1]
      rw [if_neg h3]
      by_cases k0 : t = 96
      · subst k0
        rw [if_pos rfl]
        exact op_inn (k := 0) (fun l => by unfold opKP; rw [if_pos rfl]; exact bind_eqv l) _ _
      by_cases k3 : t = 99
      · subst k3
        rw [if_neg (by decide), if_neg (by decide), if_pos rfl]
        exact op_inn (k := 3) (fun l => by unfold opKP; rw [if_neg (by decide), if_pos rfl]; exact srch_eqv l) _ _
      by_cases k6 : t = 102
      · subst k6
        rw [if_neg (by decide), if_neg (by decide), if_neg (by decide), if_pos rfl]
        exact op_inn (k := 6) (fun l => by unfold opKP; rw [if_neg (by decide), if_neg (by decide), if_pos rfl]; exact modf_eqv l) _ _
      by_cases k8 : t = 104
      · subst k8
        rw [if_neg (by decide), if_neg (by decide), if_neg (by decide), if_neg (by decide), if_pos rfl]
        exact op_inn (k := 8) (fun l => by unfold opKP; rw [if_neg (by decide), if_neg (by decide), if_neg (by decide), if_pos rfl]; exact add_eqv l) _ _
      by_cases k12 : t = 108
      · subst k12
        rw [if_neg (by decide), if_neg (by decide), if_neg (by decide), if_neg (by decide), if_neg (by decide), if_neg (by decide), if_pos rfl]
        exact op_inn (k := 12) (fun l => by unfold opKP; rw [if_neg (by decide), if_neg (by decide), if_neg (by decide), if_neg (by decide), if_pos rfl]; exact ren_eqv l) _ _
      by_cases k14 : t = 110
      · subst k14
        rw [if_neg (by decide), if_neg (by decide), if_neg (by decide), if_neg (by decide), if_neg (by decide), if_neg (by decide), if_neg (by decide), if_pos rfl]
        exact op_inn (k := 14) (fun l => by unfold opKP; rw [if_neg (by decide), if_neg (by decide), if_neg (by decide), if_neg (by decide), if_neg (by decide), if_pos rfl]; exact cmp_eqv l) _ _
      rw [if_neg k0, if_neg h1, if_neg k3, if_neg k6, if_neg k8, if_neg h2, if_neg k12, if_neg k14]
      refine .bad ?_ ?_
      · have e : ∀ l, (opKP ((t.toNat : Int) - 96) l false).2.2 = true := fun l => by
          have hv : ∀ n : Nat, n < 256 → (t.toNat : Int) - 96 = (n : Int) - 96 → t = UInt8.ofNat n := fun n hn h => by
            apply UInt8.toNat_inj.1
            rw [UInt8.toNat_ofNat']
            omega
          unfold opKP
          rw [if_neg (fun h => k0 (hv 96 (by decide) (by omega))), if_neg (fun h => k3 (hv 99 (by decide) (by omega))), if_neg (fun h => k6 (hv 102 (by decide) (by omega))), if_neg (fun h => k8 (hv 104 (by decide) (by omega))), if_neg (fun h => k12 (hv 108 (by decide) (by omega))), if_neg (fun h => k14 (hv 110 (by decide) (by omega)))]
        have e2 : ∀ l b, (opKP ((t.toNat : Int) - 96) l b).2.2 = true := fun l b => by
          cases b with
          | true => exact opKP_bad _ l
          | false => exact e l
        unfold innM
        dsimp only
        rw [e2]
        simp [endI]
      · show (numR ((t, b) :: r) false 80 0 mostN).2.2 = true
        unfold numR numI
        rw [takeI_other h3]
        rfl
/-! ### requests -/
def withNum (r : Req) (n : Int) : Req := { r with num := n }
/-- A request behind its bytes' head, by the program. -/
def reqP (b : List UInt8) : Req × List It × Bool :=
  let q := numI (allI b) (badI b) 2
  let o := opP q.2.1 q.2.2
  let c := mayI o.2.1 o.2.2 160
  (withNum o.1 q.1, c.2)
def reqD (b : List UInt8) (bad : Bool) : Req × List It × Bool :=
  let q := numR (allI b) (badI b || bad) 2 1 mostN
  let o := opD q.2.1 q.2.2
  let c := mayI o.2.1 o.2.2 160
  (withNum o.1 q.1, c.2)
def decP (b : List UInt8) : Req × Int :=
  let n := Ber.nextB b
  if n.e ≠ 0 then (zR, n.e) else
    let c := reqP n.body
    if (decide (n.tag ≠ 48) || decide (n.rest ≠ []) || c.2.2 || decide (c.2.1 ≠ []) || !isR c.1) = true then (zR, 3) else (c.1, 0)
def decD (b : List UInt8) : Req × Int :=
  let n := Ber.nextB b
  if n.e ≠ 0 then (zR, n.e) else
    let c := reqD n.body (decide (n.tag ≠ 48) || decide (n.rest ≠ []))
    if (c.2.2 || decide (c.2.1 ≠ []) || !isR c.1) = true then (zR, 3) else (c.1, 0)
theorem isR_ok {r : Req} (h : isR r = true) : (1 ≤ r.num ∧ r.num ≤ mostN) ∧ okO r := by
  unfold isR soundB at h
  simp only [Bool.and_eq_true, decide_eq_true_eq] at h
  obtain ⟨⟨⟨⟨⟨⟨⟨⟨h1, h2⟩, h3⟩, h4⟩, h5⟩, h6⟩, h7⟩, h8⟩, h9⟩ := h
  unfold numB at h2 h4
  simp only [Bool.and_eq_true, decide_eq_true_eq] at h2 h4
  refine ⟨h2, ⟨⟨h4.1.1.1, h4.1.1.2⟩, h4.1.2, h4.2, fun m hm => ?_⟩⟩
  have := List.all_eq_true.1 h8.1 m hm
  unfold modOk at this
  simp only [Bool.and_eq_true, decide_eq_true_eq] at this
  exact this.1
theorem mayI_f {l : List It} {bad : Bool} {t : UInt8} (h : (mayI l bad t).2.2 = false) : bad = false := by
  cases bad with
  | true => rw [mayI_bad] at h; cases h
  | false => rfl
theorem opP_bad (l : List It) : (opP l true).2.2 = true := by cases l <;> rfl
theorem opD_bad (l : List It) : (opD l true).2.2 = true := opD_none (peek_true _) (takeI_bad2 _ _)
theorem reqD_bad (b : List UInt8) : (reqD b true).2.2 = true := by
  unfold reqD
  dsimp only
  rw [Bool.or_true, numR_bad, opD_bad, mayI_bad]
theorem req_eq1 {b : List UInt8} (h : (reqD b false).2.2 = false) : reqP b = reqD b false := by
  unfold reqD at h ⊢
  unfold reqP
  dsimp only at h ⊢
  rw [Bool.or_false] at h ⊢
  have h1 := mayI_f h
  by_cases hq : (numR (allI b) (badI b) 2 1 mostN).2.2 = true
  · rw [hq, opD_bad] at h1; cases h1
  · obtain ⟨q1, q2, q3, q4⟩ := numR_f (by simpa using hq)
    rw [q4] at h1 ⊢
    rw [((op_eqv _ _).1 h1).1]
theorem req_eq2 {b : List UInt8} (h : (reqP b).2.2 = false) (hr : isR (reqP b).1 = true) : reqD b false = reqP b := by
  obtain ⟨hn, ho⟩ := isR_ok hr
  unfold reqP at h hn ho ⊢
  unfold reqD
  dsimp only at h hn ho ⊢
  rw [Bool.or_false]
  have h1 := mayI_f h
  by_cases hq : (numI (allI b) (badI b) 2).2.2 = true
  · rw [hq, opP_bad] at h1; cases h1
  · rw [numR_of (by simpa using hq) hn]
    rw [(op_eqv _ _).2 h1 ho]
theorem dec_eq (b : List UInt8) : decP b = decD b := by
  unfold decP decD
  generalize Ber.nextB b = n
  dsimp only
  by_cases he : n.e ≠ 0
  · rw [if_pos he, if_pos he]
  rw [if_neg he, if_neg he]
  cases hb : (decide (n.tag ≠ 48) || decide (n.rest ≠ [])) with
  | true => rw [reqD_bad]; simp
  | false =>
    cases hd : ((reqD n.body false).2.2 || decide ((reqD n.body false).2.1 ≠ []) || !isR (reqD n.body false).1) with
    | false =>
      have h1 : (reqD n.body false).2.2 = false := by
        simp only [Bool.or_eq_false_iff] at hd; exact hd.1.1
      rw [req_eq1 h1, Bool.false_or, hd]
    | true =>
      rw [Bool.false_or]
      cases hp : ((reqP n.body).2.2 || decide ((reqP n.body).2.1 ≠ []) || !isR (reqP n.body).1) with
      | true => rfl
      | false =>
        have h1 := hp
        simp only [Bool.or_eq_false_iff, Bool.not_eq_false'] at h1
        rw [req_eq2 h1.1.1 h1.2, hp] at hd
        cases hd
end Go.Ms
set_option linter.unusedVariables false
namespace Go.Ms
open Go.Vk
theorem truth2_w (l : List It) (bad : Bool) : wI (truthI l bad).2.1 ≤ wI l := truthI_w l bad
end Go.Ms
set_option maxRecDepth 8000
set_option linter.unusedVariables false
namespace Go.Proofs.YtkpghepeagafoaaGreat
open Go.Vk
attribute [local irreducible] HT HX RegS RegA RegM OpP OpC AltT
attribute [local irreducible] Ber.tagB Ber.lenB Ber.intB Ber.allE Ber.fromIntB Ber.nextB Ms.midB Ms.kindT Ms.textI Ms.numI Ms.truthI Ms.filtP Ms.textsM Ms.modsM Ms.attrsM
/-- A request that is written to. -/
abbrev RQ (g : Nat) (r : Ms.Req) : Res := ownP g 49 (Ms.cReq r)
set_option maxHeartbeats 4000000 in
theorem miSearch (g g2 : Nat) (num : Int) (l : List Ms.It) (bad : Bool) (hl : Ms.wI l ≤ 100000000) : CallsC Tryz.prog 77 [Is (pAt g 0), Is (pAt g2 0)] [IX g l bad, ownP g2 49 (Ms.zReq num 3)] (fun _ => TTup []) (fun _ => [IX g (Ms.srchP l bad).2.1 (Ms.srchP l bad).2.2, ownP g2 49 (Ms.cReq (Ms.withNum (Ms.srchP l bad).1 num))]) := by
  have c1 := fun g => miText g l bad hl
  have w1 := Ms.textI_w l bad
  unfold Ms.srchP Ms.withNum
  dsimp only
  generalize Ms.textI l bad = d at c1 w1 ⊢
  have l1 := Ms.wI_len d.2.1
  have cS : ∀ g, CallsC Tryz.prog 45 [Is (pAt g 0), okI .u8 10] [IX g d.2.1 d.2.2] (fun _ => okI .i64 (Ms.numI d.2.1 d.2.2 10).1) (fun _ => [IX g (Ms.numI d.2.1 d.2.2 10).2.1 (Ms.numI d.2.1 d.2.2 10).2.2]) := fun g => miNum g d.2.1 d.2.2 10 (by omega)
  have w2 := Ms.numI_w d.2.1 d.2.2 10
  generalize Ms.numI d.2.1 d.2.2 10 = s at cS w2 ⊢
  have l2 := Ms.wI_len s.2.1
  have cA : ∀ g, CallsC Tryz.prog 45 [Is (pAt g 0), okI .u8 10] [IX g s.2.1 s.2.2] (fun _ => okI .i64 (Ms.numI s.2.1 s.2.2 10).1) (fun _ => [IX g (Ms.numI s.2.1 s.2.2 10).2.1 (Ms.numI s.2.1 s.2.2 10).2.2]) := fun g => miNum g s.2.1 s.2.2 10 (by omega)
  have w3 := Ms.numI_w s.2.1 s.2.2 10
  generalize Ms.numI s.2.1 s.2.2 10 = a at cA w3 ⊢
  have l3 := Ms.wI_len a.2.1
  have cM : ∀ g, CallsC Tryz.prog 45 [Is (pAt g 0), okI .u8 2] [IX g a.2.1 a.2.2] (fun _ => okI .i64 (Ms.numI a.2.1 a.2.2 2).1) (fun _ => [IX g (Ms.numI a.2.1 a.2.2 2).2.1 (Ms.numI a.2.1 a.2.2 2).2.2]) := fun g => miNum g a.2.1 a.2.2 2 (by omega)
  have w4 := Ms.numI_w a.2.1 a.2.2 2
  generalize Ms.numI a.2.1 a.2.2 2 = m at cM w4 ⊢
  have l4 := Ms.wI_len m.2.1
  have cT : ∀ g, CallsC Tryz.prog 45 [Is (pAt g 0), okI .u8 2] [IX g m.2.1 m.2.2] (fun _ => okI .i64 (Ms.numI m.2.1 m.2.2 2).1) (fun _ => [IX g (Ms.numI m.2.1 m.2.2 2).2.1 (Ms.numI m.2.1 m.2.2 2).2.2]) := fun g => miNum g m.2.1 m.2.2 2 (by omega)
  have w5 := Ms.numI_w m.2.1 m.2.2 2
  generalize Ms.numI m.2.1 m.2.2 2 = t at cT w5 ⊢
  have c4 := fun g => miTruth g t.2.1 t.2.2 (by omega)
  have w6 := Ms.truthI_w t.2.1 t.2.2
  generalize Ms.truthI t.2.1 t.2.2 = b at c4 w6 ⊢
  have c5 : ∀ g, CallsC Tryz.prog 91 [Is (pAt g 0), okI .i64 0] [IX g b.2.1 b.2.2] (fun _ => TAgg (Fi.cF (Ms.filtP 16 b.2.1 b.2.2).1)) (fun _ => [IX g (Ms.filtP 16 b.2.1 b.2.2).2.1 (Ms.filtP 16 b.2.1 b.2.2).2.2]) := fun g => miFilter 16 (by decide) g b.2.1 b.2.2 (by omega)
  have w7 := (Ms.filtP_w 16 b.2.1 b.2.2).1
  generalize Ms.filtP 16 b.2.1 b.2.2 = f at c5 w7 ⊢
  rw [Fi.cF_open] at c5
  have c6 : ∀ g, CallsC Tryz.prog 92 [Is (pAt g 0), okI .u8 48] [IX g f.2.1 f.2.2] (fun _ => TSl 1 En.cS (Ms.textsM true 48 f.2.1 f.2.2).1) (fun _ => [IX g (Ms.textsM true 48 f.2.1 f.2.2).2.1 (Ms.textsM true 48 f.2.1 f.2.2).2.2]) := fun g => miTexts g f.2.1 f.2.2 48 (by omega)
  generalize Ms.textsM true 48 f.2.1 f.2.2 = w at c6 ⊢
  have c7 : CFn Tryz.prog 93 [okI .i64 t.1, okI .i64 0] (Is (.bool (Ms.numB t.1 0))) := msIsNum t.1 0
  have kA := Hold.mk cA
  have kM := Hold.mk cM
  have kT := Hold.mk cT
  clear cA cM cT
  have st := Stop.mk' 1
  dsimp only [Ms.cReq]
  refine CallsC.of Tryz.call77 Tryz.func77 rfl Tryz.ntmps77 rfl fun w0 G0 S0 hs ho => ?_
  refine run ?_
  refine HTs.mk ?_
  have cA := kA.h
  have cM := kM.h
  clear st cS kA kM
  have st := Stop.mk' 3
  refine run ?_
  refine HTs.mk ?_
  have cT := kT.h
  clear st cA cM kT
  refine run ?_
  and_intros <;> rfl
set_option maxHeartbeats 4000000 in
theorem miOpModify (g g2 : Nat) (num : Int) (l : List Ms.It) (bad : Bool) (hl : Ms.wI l ≤ 100000000) : CallsC Tryz.prog 78 [Is (pAt g 0), Is (pAt g2 0)] [IX g l bad, ownP g2 49 (Ms.zReq num 6)] (fun _ => TTup []) (fun _ => [IX g (Ms.modfM true l bad).2.1 (Ms.modfM true l bad).2.2, ownP g2 49 (Ms.cReq (Ms.withNum (Ms.modfM true l bad).1 num))]) := by
  have c1 := fun g => miText g l bad hl
  have w1 := Ms.textI_w l bad
  unfold Ms.modfM Ms.withNum
  dsimp only
  generalize Ms.textI l bad = d at c1 w1 ⊢
  have c2 := fun g => miMods g d.2.1 d.2.2 (by omega)
  generalize Ms.modsM true d.2.1 d.2.2 = s at c2 ⊢
  dsimp only [Ms.cReq]
  refine CallsC.of Tryz.call78 Tryz.func78 rfl Tryz.ntmps78 rfl fun w0 G0 S0 hs ho => ?_
  refine run ?_
  and_intros <;> intros <;> rfl
set_option maxHeartbeats 4000000 in
theorem miOpAdd (g g2 : Nat) (num : Int) (l : List Ms.It) (bad : Bool) (hl : Ms.wI l ≤ 100000000) : CallsC Tryz.prog 78 [Is (pAt g 0), Is (pAt g2 0)] [IX g l bad, ownP g2 49 (Ms.zReq num 8)] (fun _ => TTup []) (fun _ => [IX g (Ms.addM true l bad).2.1 (Ms.addM true l bad).2.2, ownP g2 49 (Ms.cReq (Ms.withNum (Ms.addM true l bad).1 num))]) := by
  have c1 := fun g => miText g l bad hl
  have w1 := Ms.textI_w l bad
  unfold Ms.addM Ms.withNum
  dsimp only
  generalize Ms.textI l bad = d at c1 w1 ⊢
  have c2 := fun g => miAttrs g d.2.1 d.2.2 (by omega)
  generalize Ms.attrsM true d.2.1 d.2.2 = s at c2 ⊢
  dsimp only [Ms.cReq]
  refine CallsC.of Tryz.call78 Tryz.func78 rfl Tryz.ntmps78 rfl fun w0 G0 S0 hs ho => ?_
  refine run ?_
  and_intros <;> intros <;> rfl
set_option maxHeartbeats 4000000 in
theorem miOpRename (g g2 : Nat) (num : Int) (l : List Ms.It) (bad : Bool) (hl : Ms.wI l ≤ 100000000) : CallsC Tryz.prog 78 [Is (pAt g 0), Is (pAt g2 0)] [IX g l bad, ownP g2 49 (Ms.zReq num 12)] (fun _ => TTup []) (fun _ => [IX g (Ms.renI l bad).2.1 (Ms.renI l bad).2.2, ownP g2 49 (Ms.cReq (Ms.withNum (Ms.renI l bad).1 num))]) := by
  have c1 := fun g => miText g l bad hl
  have w1 := Ms.textI_w l bad
  unfold Ms.renI Ms.withNum
  dsimp only
  generalize Ms.textI l bad = d at c1 w1 ⊢
  have c2 := fun g => miText g d.2.1 d.2.2 (by omega)
  have w2 := Ms.textI_w d.2.1 d.2.2
  generalize Ms.textI d.2.1 d.2.2 = n at c2 w2 ⊢
  have c3 := fun g => miTruth g n.2.1 n.2.2 (by omega)
  have w3 := Ms.truthI_w n.2.1 n.2.2
  generalize Ms.truthI n.2.1 n.2.2 = k at c3 w3 ⊢
  have l3 := Ms.wI_len k.2.1
  have c4 : ∀ g, CallsC Tryz.prog 47 [Is (pAt g 0), okI .u8 128] [IX g k.2.1 k.2.2] (fun _ => Is (.bool (Ms.isI k.2.1 k.2.2 128))) (fun _ => [IX g k.2.1 k.2.2]) := fun g => miIs g k.2.1 k.2.2 128
  have c5 : ∀ g, CallsC Tryz.prog 48 [Is (pAt g 0), okI .u8 128] [IX g k.2.1 k.2.2] (fun _ => TBytes (Ms.takeI k.2.1 k.2.2 128).1) (fun _ => [IX g (Ms.takeI k.2.1 k.2.2 128).2.1 (Ms.takeI k.2.1 k.2.2 128).2.2]) := fun g => miTake g k.2.1 k.2.2 128 (by omega)
  have k2 := Hold.mk c2
  unfold Ms.mayI
  clear c2
  have st := Stop.mk' 7
  cases hi : Ms.isI k.2.1 k.2.2 128 with
  | true =>
    rw [hi] at c4
    rw [if_pos rfl]
    generalize Ms.takeI k.2.1 k.2.2 128 = u at c5 ⊢
    dsimp only [Ms.cReq]
    refine CallsC.of Tryz.call78 Tryz.func78 rfl Tryz.ntmps78 rfl fun w0 G0 S0 hs ho => ?_
    refine run ?_
    intros
    refine HTs.mk ?_
    have c2 := k2.h
    clear st c1 k2
    refine run ?_
    and_intros <;> intros <;> rfl
  | false =>
    rw [hi] at c4
    rw [if_neg (by simp)]
    dsimp only [Ms.cReq]
    refine CallsC.of Tryz.call78 Tryz.func78 rfl Tryz.ntmps78 rfl fun w0 G0 S0 hs ho => ?_
    refine run ?_
    intros
    refine HTs.mk ?_
    have c2 := k2.h
    clear st c1 k2 c5
    refine run ?_
    and_intros <;> intros <;> rfl
set_option maxHeartbeats 4000000 in
theorem miOpCompare (g g2 : Nat) (num : Int) (l : List Ms.It) (bad : Bool) (hl : Ms.wI l ≤ 100000000) : CallsC Tryz.prog 78 [Is (pAt g 0), Is (pAt g2 0)] [IX g l bad, ownP g2 49 (Ms.zReq num 14)] (fun _ => TTup []) (fun _ => [IX g (Ms.cmpM true l bad).2.1 (Ms.cmpM true l bad).2.2, ownP g2 49 (Ms.cReq (Ms.withNum (Ms.cmpM true l bad).1 num))]) := by
  have c1 := fun g => miText g l bad hl
  have w1 := Ms.textI_w l bad
  unfold Ms.cmpM Ms.withNum
  dsimp only
  generalize Ms.textI l bad = d at c1 w1 ⊢
  have c2 : ∀ g, CallsC Tryz.prog 75 [Is (pAt g 0), okI .u8 48] [IX g d.2.1 d.2.2] (fun v => Is (pAt (blk v) 0)) (fun v => [IX g (Ms.takeI d.2.1 d.2.2 48).2.1 (Ms.takeI d.2.1 d.2.2 48).2.2, IX (blk v) (Ms.allI (Ms.takeI d.2.1 d.2.2 48).1) (Ms.badI (Ms.takeI d.2.1 d.2.2 48).1 || (Ms.takeI d.2.1 d.2.2 48).2.2)]) := fun g => miInner g d.2.1 d.2.2 48 (by omega)
  have w2 := Ms.inner_w d.2.1 d.2.2 48
  unfold Ms.innM
  dsimp only [Ms.xbM, Ms.pbM]
  generalize Ms.takeI d.2.1 d.2.2 48 = y at c2 w2 ⊢
  generalize Ms.allI y.1 = x0 at c2 w2 ⊢
  generalize (Ms.badI y.1 || y.2.2) = b0 at c2 ⊢
  unfold Ms.pairK
  dsimp only
  have w3 := Ms.textI_w x0 b0
  have w4 := Ms.textI_w (Ms.textI x0 b0).2.1 (Ms.textI x0 b0).2.2
  have c4 := fun g g2 => miEnds g g2 y.2.1 (Ms.textI (Ms.textI x0 b0).2.1 (Ms.textI x0 b0).2.2).2.1 y.2.2 (Ms.textI (Ms.textI x0 b0).2.1 (Ms.textI x0 b0).2.2).2.2 (by omega)
  have st := Stop.mk' 12
  dsimp only [Ms.cReq]
  refine CallsC.of Tryz.call78 Tryz.func78 rfl Tryz.ntmps78 rfl fun w0 G0 S0 hs ho => ?_
  refine run ?_
  intros
  refine HTs.mk ?_
  clear st c1
  have c3 := miText
  refine run ?_
  and_intros <;> intros <;> rfl
end Go.Proofs.YtkpghepeagafoaaGreat
