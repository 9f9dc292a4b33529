/-
  The contract of the stable sort's merging in place, general case, first half.
  The contract of the stable sort's merging in place, general case, second half.
  The contract of the stable sort.
  What Change reaches of the slices package: Index and Contains of numbers, IndexFunc and ContainsFunc of files; what changing a version makes.
  The contract of the program's Change.
  What changing a version makes, as the document does it; that it is what the program does. Nothing here speaks of a program; no conditions.
  The contract of the document's Change.
-/
import Derived.Test.YtohhhaeemephnaaGao
import Derived.Test.YtohhhaeemephnaaGam
set_option linter.unusedSimpArgs false
set_option linter.unusedVariables false
set_option maxRecDepth 8000
set_option linter.unusedVariables false
namespace Go.Proofs.Ytohhhaeemephnaa
open Go.Vk
attribute [local irreducible] HT HX RegS RegA RegM OpP OpC AltT
attribute [local irreducible] Srt.rotL Srt.symS
set_option maxHeartbeats 8000000 in
theorem lvSymG1 (f : Nat) (ih : ∀ (u : Value) (l : List Lv.File) (x y z : Int), 0 ≤ x → x < y → y < z → z ≤ (l.length : Int) → l.length ≤ 100000 → z - x ≤ (f : Int) → CallsC Try.prog 67 [Is u, okI .i64 x, okI .i64 y, okI .i64 z, TFn 51 []] [ownR u 31 5 Lv.cFile l] (fun _ => TTup []) (fun _ => [ownR u 31 5 Lv.cFile (Srt.symF ltF f l x.toNat y.toNat z.toNat)]))
    (u : Value) (l : List Lv.File) (a m b : Nat) (h1 : a < m) (h2 : m < b) (h3 : b ≤ l.length) (hl : l.length ≤ 100000) (hf : b - a ≤ f + 1) (k1 : ¬ (m : Int) - (a : Int) = 1) (k2 : ¬ (b : Int) - (m : Int) = 1) (hm : ((a : Int) + (b : Int)) / 2 < (m : Int)) : CallsC Try.prog 67 [Is u, okI .i64 (a : Int), okI .i64 (m : Int), okI .i64 (b : Int), TFn 51 []] [ownR u 31 5 Lv.cFile l] (fun _ => TTup []) (fun _ => [ownR u 31 5 Lv.cFile (Srt.symF ltF (f + 1) l a m b)]) := by
  have c1 := lvCompare
  have c2 := lvRotZ u
  have c3 := ih u
  clear ih
  rw [Srt.symF_eq _ _ _ _ _ _ (by omega) (by omega)]
  refine CallsC.of Try.call67 Try.func67 rfl Try.ntmps67 rfl fun w0 G0 S0 hs ho => ?_
  refine run ?_
  intros
  refine HT.loopX (σ := Nat × Nat) [0, 1, 2, 3, 4, 18, 19, 22] (fun t => [(20, okI .i64 (t.1 : Int)), (21, okI .i64 (t.2 : Int))]) (fun t => [ownR u 31 5 Lv.cFile l]) (fun t => ((a + b) / 2 + m - b ≤ t.1 ∧ t.1 ≤ t.2 ∧ t.2 ≤ (a + b) / 2) ∧ Srt.bs (Srt.ppF ltF l ((a + b) / 2 + m)) t.1 t.2 = Srt.bs (Srt.ppF ltF l ((a + b) / 2 + m)) ((a + b) / 2 + m - b) ((a + b) / 2)) (fun t => t.2 - t.1) ((a + b) / 2 + m - b, (a + b) / 2) ⟨by dsimp only; omega, rfl⟩ (run trivial) (run trivial) ?_
  rintro ⟨i, j⟩ ⟨hi, hb⟩
  dsimp only at hi hb ⊢
  have em : (((i : Int) + (j : Int)) / 2).toNat = (i + j) / 2 := by omega
  have ep : (((a : Int) + (b : Int)) / 2 + (m : Int) - 1 - ((i : Int) + (j : Int)) / 2).toNat = (a + b) / 2 + m - 1 - (i + j) / 2 := by omega
  by_cases hlt : i < j
  · refine run ?_
    rw [em, ep]
    refine ⟨fun _ h => ?_, fun _ h => ?_⟩
    · exact HX.roundX ((i + j) / 2 + 1, j) ⟨⟨by dsimp only; omega, by dsimp only; rw [Srt.bs_yes hlt (by unfold Srt.ppF ltF; rw [decide_eq_false h]; rfl), hb]⟩, by dsimp only; omega⟩ rfl (run trivial) (run trivial)
    · exact HX.roundX (i, (i + j) / 2) ⟨⟨by dsimp only; omega, by dsimp only; rw [Srt.bs_no hlt (by unfold Srt.ppF ltF; rw [decide_eq_true h]; rfl), hb]⟩, by dsimp only; omega⟩ rfl (run trivial) (run trivial)
  · have e0 : i = j := by omega
    subst e0
    rw [Srt.bs_end hlt] at hb
    have es : Srt.symS ltF l a m b = i := by unfold Srt.symS; rw [if_pos (by omega), hb]
    rw [es]
    have t1 : ((i : Int)).toNat = i := by omega
    have t3 : (((a : Int) + (b : Int)) / 2 + (m : Int) - (i : Int)).toNat = (a + b) / 2 + m - i := by omega
    have t4 : ((a : Int)).toNat = a := by omega
    have t5 : (((a : Int) + (b : Int)) / 2).toNat = (a + b) / 2 := by omega
    have t6 : ((b : Int)).toNat = b := by omega
    have t2 : ((m : Int)).toNat = m := by omega
    have l1 : (Srt.rotL l ((i : Int)).toNat ((m : Int)).toNat (((a : Int) + (b : Int)) / 2 + (m : Int) - (i : Int)).toNat).length = l.length := by rw [t1, t2, t3]; exact Srt.rotL_len (by omega) (by omega) (by omega)
    have e1 : Srt.rotL l i m ((a + b) / 2 + m - i) = Srt.rotL l ((i : Int)).toNat ((m : Int)).toNat (((a : Int) + (b : Int)) / 2 + (m : Int) - (i : Int)).toNat := by rw [t1, t2, t3]
    have e2 : ∀ q : List Lv.File, Srt.symF ltF f q a i ((a + b) / 2) = Srt.symF ltF f q ((a : Int)).toNat ((i : Int)).toNat (((a : Int) + (b : Int)) / 2).toNat := fun q => by rw [t1, t4, t5]
    have e3 : ∀ q : List Lv.File, Srt.symF ltF f q ((a + b) / 2) ((a + b) / 2 + m - i) b = Srt.symF ltF f q (((a : Int) + (b : Int)) / 2).toNat (((a : Int) + (b : Int)) / 2 + (m : Int) - (i : Int)).toNat ((b : Int)).toNat := fun q => by rw [t3, t5, t6]
    by_cases g1 : i < m ∧ m < (a + b) / 2 + m - i <;> by_cases g2 : a < i ∧ i < (a + b) / 2 <;> by_cases g3 : (a + b) / 2 < (a + b) / 2 + m - i ∧ (a + b) / 2 + m - i < b
    all_goals (
      have l2 : a < i ∧ i < (a + b) / 2 → ∀ q : List Lv.File, q.length = l.length → (Srt.symF ltF f q ((a : Int)).toNat ((i : Int)).toNat (((a : Int) + (b : Int)) / 2).toNat).length = l.length := fun hg q hq' => by rw [t1, t4, t5, Srt.symF_len (by omega) (by omega) (by omega) (by omega), hq']
      try (have l3 := l2 g2 l rfl)
      try (have l4 := l2 g2 _ l1)
      clear l2
      unfold Srt.symC Srt.rotC
      simp only [g1, g2, g3, and_self, if_true, if_false]
      try simp only [e1, e2, e3]
      exact run trivial)
end Go.Proofs.Ytohhhaeemephnaa
set_option maxRecDepth 8000
set_option linter.unusedVariables false
namespace Go.Proofs.Ytohhhaeemephnaa
open Go.Vk
attribute [local irreducible] HT HX RegS RegA RegM OpP OpC AltT
attribute [local irreducible] Srt.rotL Srt.symS
set_option maxHeartbeats 8000000 in
theorem lvSymG2 (f : Nat) (ih : ∀ (u : Value) (l : List Lv.File) (x y z : Int), 0 ≤ x → x < y → y < z → z ≤ (l.length : Int) → l.length ≤ 100000 → z - x ≤ (f : Int) → CallsC Try.prog 67 [Is u, okI .i64 x, okI .i64 y, okI .i64 z, TFn 51 []] [ownR u 31 5 Lv.cFile l] (fun _ => TTup []) (fun _ => [ownR u 31 5 Lv.cFile (Srt.symF ltF f l x.toNat y.toNat z.toNat)]))
    (u : Value) (l : List Lv.File) (a m b : Nat) (h1 : a < m) (h2 : m < b) (h3 : b ≤ l.length) (hl : l.length ≤ 100000) (hf : b - a ≤ f + 1) (k1 : ¬ (m : Int) - (a : Int) = 1) (k2 : ¬ (b : Int) - (m : Int) = 1) (hm : ¬ ((a : Int) + (b : Int)) / 2 < (m : Int)) : CallsC Try.prog 67 [Is u, okI .i64 (a : Int), okI .i64 (m : Int), okI .i64 (b : Int), TFn 51 []] [ownR u 31 5 Lv.cFile l] (fun _ => TTup []) (fun _ => [ownR u 31 5 Lv.cFile (Srt.symF ltF (f + 1) l a m b)]) := by
  have c1 := lvCompare
  have c2 := lvRotZ u
  have c3 := ih u
  clear ih
  rw [Srt.symF_eq _ _ _ _ _ _ (by omega) (by omega)]
  refine CallsC.of Try.call67 Try.func67 rfl Try.ntmps67 rfl fun w0 G0 S0 hs ho => ?_
  refine run ?_
  intros
  refine HT.loopX (σ := Nat × Nat) [0, 1, 2, 3, 4, 18, 19, 22] (fun t => [(20, okI .i64 (t.1 : Int)), (21, okI .i64 (t.2 : Int))]) (fun t => [ownR u 31 5 Lv.cFile l]) (fun t => (a ≤ t.1 ∧ t.1 ≤ t.2 ∧ t.2 ≤ m) ∧ Srt.bs (Srt.ppF ltF l ((a + b) / 2 + m)) t.1 t.2 = Srt.bs (Srt.ppF ltF l ((a + b) / 2 + m)) a m) (fun t => t.2 - t.1) (a, m) ⟨by dsimp only; omega, rfl⟩ (run trivial) (run trivial) ?_
  rintro ⟨i, j⟩ ⟨hi, hb⟩
  dsimp only at hi hb ⊢
  have em : (((i : Int) + (j : Int)) / 2).toNat = (i + j) / 2 := by omega
  have ep : (((a : Int) + (b : Int)) / 2 + (m : Int) - 1 - ((i : Int) + (j : Int)) / 2).toNat = (a + b) / 2 + m - 1 - (i + j) / 2 := by omega
  by_cases hlt : i < j
  · refine run ?_
    rw [em, ep]
    refine ⟨fun _ h => ?_, fun _ h => ?_⟩
    · exact HX.roundX ((i + j) / 2 + 1, j) ⟨⟨by dsimp only; omega, by dsimp only; rw [Srt.bs_yes hlt (by unfold Srt.ppF ltF; rw [decide_eq_false h]; rfl), hb]⟩, by dsimp only; omega⟩ rfl (run trivial) (run trivial)
    · exact HX.roundX (i, (i + j) / 2) ⟨⟨by dsimp only; omega, by dsimp only; rw [Srt.bs_no hlt (by unfold Srt.ppF ltF; rw [decide_eq_true h]; rfl), hb]⟩, by dsimp only; omega⟩ rfl (run trivial) (run trivial)
  · have e0 : i = j := by omega
    subst e0
    rw [Srt.bs_end hlt] at hb
    have es : Srt.symS ltF l a m b = i := by unfold Srt.symS; rw [if_neg (by omega), hb]
    rw [es]
    have t1 : ((i : Int)).toNat = i := by omega
    have t3 : (((a : Int) + (b : Int)) / 2 + (m : Int) - (i : Int)).toNat = (a + b) / 2 + m - i := by omega
    have t4 : ((a : Int)).toNat = a := by omega
    have t5 : (((a : Int) + (b : Int)) / 2).toNat = (a + b) / 2 := by omega
    have t6 : ((b : Int)).toNat = b := by omega
    have t2 : ((m : Int)).toNat = m := by omega
    have l1 : (Srt.rotL l ((i : Int)).toNat ((m : Int)).toNat (((a : Int) + (b : Int)) / 2 + (m : Int) - (i : Int)).toNat).length = l.length := by rw [t1, t2, t3]; exact Srt.rotL_len (by omega) (by omega) (by omega)
    have e1 : Srt.rotL l i m ((a + b) / 2 + m - i) = Srt.rotL l ((i : Int)).toNat ((m : Int)).toNat (((a : Int) + (b : Int)) / 2 + (m : Int) - (i : Int)).toNat := by rw [t1, t2, t3]
    have e2 : ∀ q : List Lv.File, Srt.symF ltF f q a i ((a + b) / 2) = Srt.symF ltF f q ((a : Int)).toNat ((i : Int)).toNat (((a : Int) + (b : Int)) / 2).toNat := fun q => by rw [t1, t4, t5]
    have e3 : ∀ q : List Lv.File, Srt.symF ltF f q ((a + b) / 2) ((a + b) / 2 + m - i) b = Srt.symF ltF f q (((a : Int) + (b : Int)) / 2).toNat (((a : Int) + (b : Int)) / 2 + (m : Int) - (i : Int)).toNat ((b : Int)).toNat := fun q => by rw [t3, t5, t6]
    by_cases g1 : i < m ∧ m < (a + b) / 2 + m - i <;> by_cases g2 : a < i ∧ i < (a + b) / 2 <;> by_cases g3 : (a + b) / 2 < (a + b) / 2 + m - i ∧ (a + b) / 2 + m - i < b
    all_goals (
      have l2 : a < i ∧ i < (a + b) / 2 → ∀ q : List Lv.File, q.length = l.length → (Srt.symF ltF f q ((a : Int)).toNat ((i : Int)).toNat (((a : Int) + (b : Int)) / 2).toNat).length = l.length := fun hg q hq' => by rw [t1, t4, t5, Srt.symF_len (by omega) (by omega) (by omega) (by omega), hq']
      try (have l3 := l2 g2 l rfl)
      try (have l4 := l2 g2 _ l1)
      clear l2
      unfold Srt.symC Srt.rotC
      simp only [g1, g2, g3, and_self, if_true, if_false]
      try simp only [e1, e2, e3]
      exact run trivial)
end Go.Proofs.Ytohhhaeemephnaa
namespace Go.Srt
theorem fuel_le {n : Nat} (h : n ≤ 100000) : n ≤ fuelF := by unfold fuelF; omega
end Go.Srt
set_option maxRecDepth 8000
set_option linter.unusedVariables false
namespace Go.Proofs.Ytohhhaeemephnaa
open Go.Vk
attribute [local irreducible] HT HX RegS RegA RegM OpP OpC AltT
attribute [local irreducible] Srt.rotL Srt.symS Srt.insN Srt.fuelF
theorem lvSymR : ∀ (f : Nat) (u : Value) (l : List Lv.File) (x y z : Int), 0 ≤ x → x < y → y < z → z ≤ (l.length : Int) → l.length ≤ 100000 → z - x ≤ (f : Int) → CallsC Try.prog 67 [Is u, okI .i64 x, okI .i64 y, okI .i64 z, TFn 51 []] [ownR u 31 5 Lv.cFile l] (fun _ => TTup []) (fun _ => [ownR u 31 5 Lv.cFile (Srt.symF ltF f l x.toNat y.toNat z.toNat)])
  | 0, u, l, x, y, z, h0, h1, h2, h3, hl, hf => by omega
  | f + 1, u, l, x, y, z, h0, h1, h2, h3, hl, hf => by
    obtain ⟨a, rfl⟩ : ∃ a : Nat, x = (a : Int) := ⟨x.toNat, by omega⟩
    obtain ⟨m, rfl⟩ : ∃ a : Nat, y = (a : Int) := ⟨y.toNat, by omega⟩
    obtain ⟨b, rfl⟩ : ∃ a : Nat, z = (a : Int) := ⟨z.toNat, by omega⟩
    rw [Int.toNat_natCast, Int.toNat_natCast, Int.toNat_natCast]
    by_cases k1 : (m : Int) - (a : Int) = 1
    · have := lvSymA u l a m b (by omega) (by omega) (by omega) hl k1
      rwa [show Srt.symF ltF (f + 1) l a m b = Srt.rotL l a m (Srt.bs (Srt.oneU ltF l a) m b) by rw [Srt.symF, if_pos (by omega)]]
    by_cases k2 : (b : Int) - (m : Int) = 1
    · have := lvSymB u l a m b (by omega) (by omega) (by omega) hl k1 k2
      rwa [show Srt.symF ltF (f + 1) l a m b = Srt.rotL l (Srt.bs (Srt.oneD ltF l m) a m) m b by rw [Srt.symF, if_neg (by omega), if_pos (by omega)]]
    by_cases hm : ((a : Int) + (b : Int)) / 2 < (m : Int)
    · exact lvSymG1 f (lvSymR f) u l a m b (by omega) (by omega) (by omega) hl (by omega) k1 k2 hm
    · exact lvSymG2 f (lvSymR f) u l a m b (by omega) (by omega) (by omega) hl (by omega) k1 k2 hm
attribute [local irreducible] Srt.symF
theorem lvSymS (u : Value) (l : List Lv.File) (x y z : Int) (h0 : 0 ≤ x) (h1 : x < y) (h2 : y < z) (h3 : z ≤ (l.length : Int)) (hl : l.length ≤ 100000) : CallsC Try.prog 67 [Is u, okI .i64 x, okI .i64 y, okI .i64 z, TFn 51 []] [ownR u 31 5 Lv.cFile l] (fun _ => TTup []) (fun _ => [ownR u 31 5 Lv.cFile (Srt.symF ltF Srt.fuelF l x.toNat y.toNat z.toNat)]) :=
  lvSymR Srt.fuelF u l x y z h0 h1 h2 h3 hl (by have := Srt.fuel_le hl; omega)
theorem lvInsZ (u : Value) (l : List Lv.File) (x y : Int) (h0 : 0 ≤ x) (h1 : x ≤ y) (h2 : y ≤ (l.length : Int)) (hl : l.length ≤ 100000) : CallsC Try.prog 66 [Is u, okI .i64 x, okI .i64 y, TFn 51 []] [ownR u 31 5 Lv.cFile l] (fun _ => TTup []) (fun _ => [ownR u 31 5 Lv.cFile (Srt.insN ltF l x.toNat (y.toNat - x.toNat - 1))]) := by
  have := lvInsR u l x.toNat y.toNat (by omega) (by omega) hl
  rwa [Int.toNat_of_nonneg h0, Int.toNat_of_nonneg (show 0 ≤ y by omega)] at this

set_option maxHeartbeats 8000000 in
theorem lvStableR (u : Value) (l : List Lv.File) (hl : l.length ≤ 100000) : CallsC Try.prog 61 [Is u, okI .i64 (l.length : Int), TFn 51 []] [ownR u 31 5 Lv.cFile l] (fun _ => TTup []) (fun _ => [ownR u 31 5 Lv.cFile (Srt.stabF ltF l)]) := by
  have c1 := lvInsZ u
  have c2 := lvSymS u
  unfold Srt.stabF
  refine CallsC.of Try.call61 Try.func61 rfl Try.ntmps61 rfl fun w0 G0 S0 hs ho => ?_
  refine run ?_
  refine HT.loopX (σ := (Nat × Nat) × List Lv.File) [0, 1, 2, 6] (fun t => [(7, okI .i64 (t.1.1 : Int)), (8, okI .i64 (t.1.2 : Int))]) (fun t => [ownR u 31 5 Lv.cFile t.2]) (fun t => (t.1.1 ≤ l.length ∧ t.1.2 = t.1.1 + 20 ∧ t.2.length = l.length) ∧ Srt.ph1 ltF t.2 t.1.1 l.length = Srt.ph1 ltF l 0 l.length) (fun t => l.length - t.1.1) ((0, 20), l) ⟨⟨Nat.zero_le _, rfl, rfl⟩, rfl⟩ (run trivial) (run trivial) ?_
  rintro ⟨⟨a, b⟩, q⟩ ⟨⟨ha, hb, hq0⟩, hr⟩
  dsimp only at ha hb hq0 hr ⊢
  subst hb
  by_cases hlt : a + 20 ≤ l.length
  · refine run ?_
    intros
    refine HX.roundX ((a + 20, a + 20 + 20), Srt.insN ltF q ((a : Int)).toNat (((a + 20 : Nat) : Int).toNat - ((a : Int)).toNat - 1)) ⟨⟨⟨by dsimp only; omega, rfl, by dsimp only; rw [Srt.insN_len, hq0]⟩, ?_⟩, by dsimp only; omega⟩ rfl (run trivial) (run trivial)
    dsimp only
    rw [Int.toNat_natCast, Int.toNat_natCast, show a + 20 - a - 1 = 19 by omega, Srt.ph1_yes hlt, hr]
  · have hi : Srt.insN ltF q ((a : Int)).toNat (((l.length : Int)).toNat - ((a : Int)).toNat - 1) = Srt.ph1 ltF l 0 l.length := by rw [Int.toNat_natCast, Int.toNat_natCast, ← hr, Srt.ph1_no hlt]
    have hi2 : (Srt.ph1 ltF l 0 l.length).length = l.length := by rw [← hi, Srt.insN_len, hq0]
    refine run ?_
    intros
    rw [hi]
    generalize Srt.ph1 ltF l 0 l.length = p at *
    refine HT.loopX (σ := Nat × List Lv.File) [0, 1, 2] (fun t => [(6, okI .i64 (t.1 : Int))]) (fun t => [ownR u 31 5 Lv.cFile t.2]) (fun t => (20 ≤ t.1 ∧ t.1 ≤ 1000000 ∧ t.2.length = l.length) ∧ Srt.ph3 ltF t.2 t.1 l.length = Srt.ph3 ltF p 20 l.length) (fun t => l.length - t.1) (20, p) ⟨⟨Nat.le_refl _, by dsimp only; omega, hi2⟩, rfl⟩ (run trivial) (run trivial) ?_
    rintro ⟨k, q⟩ ⟨⟨hk, hk2, hq0⟩, hr⟩
    dsimp only at hk hk2 hq0 hr ⊢
    by_cases hlt : k < l.length
    · refine run ?_
      intros
      refine HT.loopX (σ := (Nat × Nat) × List Lv.File) [0, 1, 2, 6] (fun t => [(7, okI .i64 (t.1.1 : Int)), (8, okI .i64 (t.1.2 : Int))]) (fun t => [ownR u 31 5 Lv.cFile t.2]) (fun t => (t.1.1 ≤ l.length ∧ t.1.2 = t.1.1 + 2 * k ∧ t.2.length = l.length) ∧ Srt.ph2 ltF t.2 k t.1.1 l.length = Srt.ph2 ltF q k 0 l.length) (fun t => l.length - t.1.1) ((0, 2 * k), q) ⟨⟨Nat.zero_le _, by dsimp only; omega, hq0⟩, rfl⟩ (run trivial) (run trivial) ?_
      rintro ⟨⟨a, b⟩, r⟩ ⟨⟨ha, hb, hr0⟩, hs⟩
      dsimp only at ha hb hr0 hs ⊢
      by_cases hlt3 : b ≤ l.length
      · have e1 : ((a : Int) + (k : Int)).toNat = a + k := by omega
        refine run ?_
        intros
        refine HX.roundX ((b, b + 2 * k), Srt.symF ltF Srt.fuelF r ((a : Int)).toNat ((a : Int) + (k : Int)).toNat ((b : Int)).toNat) ⟨⟨⟨by dsimp only; omega, rfl, ?_⟩, ?_⟩, by dsimp only; omega⟩ rfl (run trivial) (run trivial)
        · dsimp only
          rw [Int.toNat_natCast, Int.toNat_natCast, e1, Srt.symF_len (by omega) (by omega) (by omega) (Srt.fuel_le (by omega)), hr0]
        · dsimp only
          subst hb
          rw [Int.toNat_natCast, Int.toNat_natCast, e1, Srt.ph2_yes ⟨by omega, by omega⟩, hs]
      · have e1 : ((a : Int) + (k : Int)).toNat = a + k := by omega
        rw [Srt.ph2_no (by omega)] at hs
        by_cases hlt4 : a + k < l.length
        · rw [if_pos hlt4] at hs
          refine run ?_
          intros
          refine HX.roundX (k * 2, Srt.symF ltF Srt.fuelF r ((a : Int)).toNat ((a : Int) + (k : Int)).toNat ((l.length : Int)).toNat) ⟨⟨⟨by dsimp only; omega, by dsimp only; omega, ?_⟩, ?_⟩, by dsimp only; omega⟩ rfl (run trivial) (run trivial)
          · dsimp only
            rw [Int.toNat_natCast, Int.toNat_natCast, e1, Srt.symF_len (by omega) (by omega) (by omega) (Srt.fuel_le (by omega)), hr0]
          · dsimp only
            rw [Int.toNat_natCast, Int.toNat_natCast, e1, hs, Srt.ph3_yes ⟨by omega, hlt⟩, hr]
        · rw [if_neg hlt4] at hs
          refine run ?_
          intros
          refine HX.roundX (k * 2, r) ⟨⟨⟨by dsimp only; omega, by dsimp only; omega, hr0⟩, ?_⟩, by dsimp only; omega⟩ rfl (run trivial) (run trivial)
          dsimp only
          rw [hs, Srt.ph3_yes ⟨by omega, hlt⟩, hr]
    · rw [Srt.ph3_no (by omega)] at hr
      rw [← hr]
      exact run trivial
theorem lvSortR (u : Value) (l : List Lv.File) (hl : l.length ≤ 100000) : CallsC Try.prog 50 [Is u, TFn 51 []] [ownR u 31 5 Lv.cFile l] (fun _ => TTup []) (fun _ => [ownR u 31 5 Lv.cFile (Srt.stabF ltF l)]) := by
  have c1 := lvStableR u l hl
  refine CallsC.of Try.call50 Try.func50 rfl Try.ntmps50 rfl fun w0 G0 S0 hs ho => ?_
  exact run trivial
end Go.Proofs.Ytohhhaeemephnaa
set_option linter.unusedVariables false
namespace Go.Vk
/-- A variable of one's own is given away: nothing turns it any more. -/
theorem Inv.giveC {F : FCtx} {L : List Res} {G : Imm} {w : World} {S : Nat → Nat → Prop} {g k : Nat} {e : TypeId} {ts : List Ty} (h : Inv F L G w S) (hL : L[k]? = some (ownP g e ts)) :
    ∃ G', Imm.le G G' ∧ Inv F (L.set k empR) G' w (fun i b => i ≠ k ∧ S i b) ∧ CellsP G' g 0 ts := by
  obtain ⟨hS, ⟨cs, hc, hcs, hv⟩, hfree⟩ := h.owns.res k _ hL
  have hgS : S k g := (hS g).2 rfl
  have hle : Imm.le G (fun b o => if b = g then cs[o]? else G b o) := fun b o v hb => by
    by_cases hbg : b = g
    · subst hbg; rw [hfree] at hb; cases hb
    · show (if b = g then cs[o]? else G b o) = some v
      rw [if_neg hbg]; exact hb
  have hoth : ∀ b, b ≠ g → ∀ o, (fun b o => if b = g then cs[o]? else G b o : Imm) b o = G b o := fun b hb o => by
    show (if b = g then cs[o]? else G b o) = G b o
    rw [if_neg hb]
  have hsat : Sat (fun b o => if b = g then cs[o]? else G b o) w := fun b o v hb => by
    by_cases hbg : b = g
    · subst hbg
      have hb' : cs[o]? = some v := by
        have : (if b = b then cs[o]? else G b o) = some v := hb
        rwa [if_pos rfl] at this
      simp [World.cell?, hc, hb']
    · have hb' : G b o = some v := by
        have : (if b = g then cs[o]? else G b o) = some v := hb
        rwa [if_neg hbg] at this
      exact h.ext.sat b o v hb'
  have hk : k < L.length := (List.getElem?_eq_some_iff.1 hL).1
  refine ⟨_, hle, ⟨⟨hsat, h.ext.le.trans hle, h.ext.os, h.ext.tape, h.ext.output, h.ext.size, fun b hb hx => ?_⟩, ?_, fun i b hb => h.mine i b hb.2⟩, ?_⟩
  · obtain ⟨e1, e2⟩ := h.ext.blk b hb hx
    refine ⟨e1, fun o => (hoth b (fun hbg => ?_) o).trans (e2 o)⟩
    subst hbg
    rcases h.mine k b hgS with hX | hX
    · exact hx hX
    · omega
  · refine ⟨fun i b hb => h.owns.bound i b hb.2, fun i j b hi hj => h.owns.disj i j b hi.2 hj.2, fun i b hb => by simpa using h.owns.inL i b hb.2, fun i r hr => ?_⟩
    rw [List.getElem?_set] at hr
    by_cases hik : k = i
    · subst hik
      rw [if_pos rfl, if_pos hk] at hr
      cases hr
      exact trivial
    · rw [if_neg hik] at hr
      have := h.owns.res i r hr
      have heq : (fun b => i ≠ k ∧ S i b) = S i := by
        funext b; exact propext ⟨fun x => x.2, fun x => ⟨fun e => hik e.symm, x⟩⟩
      rw [heq]
      refine r.loc this hle fun b hb => ⟨rfl, hoth b fun hbg => ?_⟩
      subst hbg
      exact hik (h.owns.disj k i b hgS hb)
  · intro j T hT
    obtain ⟨u, hu, hTu, h1c⟩ := hv j T hT
    refine ⟨u, ?_, T.mono hle hTu, h1c⟩
    show (if g = g then cs[0 + j]? else G g _) = some u
    rw [if_pos rfl, Nat.zero_add]; exact hu
theorem HT.giveC {F : FCtx} {E : Env} {L : List Res} {Q : Exit → Act → World → Prop} {code : Code} {g t : Nat} {e : TypeId} {ts : List Ty} (k : Nat) (hE : E.get t = some (Is (pAt g 0))) (hL : L[k]? = some (ownP g e ts)) (h : HT F ((t, TPc ts) :: E) (L.set k empR) code Q) : HT F E L code Q := fun a w G S hi ht => by
  obtain ⟨G', hle, hi', hT⟩ := hi.giveC hL
  refine h a w G' _ hi' ⟨ht.size, ht.defers, fun t' T' e' => ?_⟩
  have hm := ht.mono hle
  simp only [Env.get] at e'
  cases hb : Nat.beq t t' with
  | false => rw [hb] at e'; exact hm.get t' T' e'
  | true =>
    rw [hb] at e'
    cases e'
    have := Nat.eq_of_beq_eq_true hb
    subst this
    have hv : a.tmps.getD t undef = pAt g 0 := ht.get t _ hE
    rw [hv]; exact ⟨g, 0, by first | rfl | (unfold pAt; rfl), hT⟩
end Go.Vk
namespace Go.Lv
open Go.Vk
open Go.Proofs.Ytohhhaeemephnaa (ltF)
abbrev cZ (n : Int) : List Ty := [okI .i64 n]
section
variable {α : Type}
def ixOf (p : α → Bool) (l : List α) : Int := if l.any p = true then (l.findIdx p : Int) else -1
theorem any_go [Inhabited α] {p : α → Bool} {l : List α} {i : Nat} (h : i < l.length) (h1 : (l.take i).any p = false) (h2 : p (l.getD i default) = false) : (l.take (i + 1)).any p = false := by
  rw [any_snoc h, h1, h2]; rfl
theorem ixOf_none {p : α → Bool} {l : List α} (h : l.any p = false) : ixOf p l = -1 := by unfold ixOf; rw [h]; rfl
theorem ixOf_at [Inhabited α] {p : α → Bool} {l : List α} {i : Nat} (h : i < l.length) (h1 : (l.take i).any p = false) (h2 : p (l.getD i default) = true) : ixOf p l = i := by
  have h3 : p l[i] = true := by rw [List.getD_eq_getElem?_getD, List.getElem?_eq_getElem h] at h2; exact h2
  have h4 : l.any p = true := List.any_eq_true.2 ⟨l[i], List.getElem_mem h, h3⟩
  unfold ixOf
  rw [if_pos h4]
  congr 1
  rw [List.findIdx_eq h]
  refine ⟨h3, fun j hj => ?_⟩
  rw [List.any_eq_false] at h1
  have := h1 (l[j]) (List.mem_take_iff_getElem.2 ⟨j, by omega, rfl⟩)
  simpa using this
theorem ixOf_nonneg {p : α → Bool} {l : List α} : decide (0 ≤ ixOf p l) = l.any p := by
  unfold ixOf
  cases h : l.any p
  · rfl
  · simp
end
/-! ### what changing a version makes, as the program does it -/
def inZ (n : Int) (l : List Int) : Bool := l.any fun k => decide (n = k)
def hasF (l : List File) (n : Int) : Bool := l.any fun f => decide (f.id = n)
def badZ (l : List File) (gone : List Int) (i : Nat) : Bool := inZ (gone.getD i default) (gone.take i) || !hasF l (gone.getD i default)
def badG (l : List File) (gone : List Int) : Bool := (List.range gone.length).any (badZ l gone)
def keptF (gone : List Int) (f : File) : Bool := !inZ f.id gone
def nextF (n : Int) (f : File) : Int := if n < f.id + 1 then f.id + 1 else n
def bigF (f : File) : Bool := decide (1099511627776 < f.id)
def newV (v : Ver) (gone : List Int) (add : List File) : Ver := ⟨add.foldl nextF v.next, Srt.stabF ltF (v.files.filter (keptF gone) ++ add)⟩
def chgOk (v : Ver) (gone : List Int) (add : List File) : Bool := isV v && !badG v.files gone && !add.any bigF && isV (newV v gone add)
def chgV (v : Ver) (gone : List Int) (add : List File) : Ver := if chgOk v gone add = true then newV v gone add else zV
def chgE (v : Ver) (gone : List Int) (add : List File) : Int := if chgOk v gone add = true then 0 else 1
theorem chg_no {v : Ver} {gone : List Int} {add : List File} (h : chgOk v gone add = false) : chgV v gone add = zV ∧ chgE v gone add = 1 := by
  unfold chgV chgE
  rw [h]
  exact ⟨rfl, rfl⟩
theorem chg_yes {v : Ver} {gone : List Int} {add : List File} (h : chgOk v gone add = true) : chgV v gone add = newV v gone add ∧ chgE v gone add = 0 := by
  unfold chgV chgE
  rw [h]
  exact ⟨rfl, rfl⟩
theorem chg_no0 {v : Ver} {gone : List Int} {add : List File} (h : isV v = false) : chgOk v gone add = false := by unfold chgOk; rw [h]; rfl
theorem chg_no1 {v : Ver} {gone : List Int} {add : List File} {i : Nat} (hi : i < gone.length) (h : badZ v.files gone i = true) : chgOk v gone add = false := by
  have : badG v.files gone = true := List.any_eq_true.2 ⟨i, List.mem_range.2 hi, h⟩
  unfold chgOk; rw [this]; simp
theorem chg_no2 {v : Ver} {gone : List Int} {add : List File} {i : Nat} (hi : i < add.length) (h : bigF (add.getD i default) = true) : chgOk v gone add = false := by
  have : add.any bigF = true := List.any_eq_true.2 ⟨_, getD_mem hi, h⟩
  unfold chgOk; rw [this]; simp
theorem chg_is {v : Ver} {gone : List Int} {add : List File} (h0 : isV v = true) (h1 : ∀ i, i < gone.length → badZ v.files gone i = false) (h2 : ∀ i, i < add.length → bigF (add.getD i default) = false) : chgOk v gone add = isV (newV v gone add) := by
  have e1 : badG v.files gone = false := by
    unfold badG
    rw [List.any_eq_false]
    intro i hi
    rw [h1 i (List.mem_range.1 hi)]; simp
  have e2 : add.any bigF = false := by
    rw [List.any_eq_false]
    intro f hf
    obtain ⟨i, hi, e⟩ := List.getElem_of_mem hf
    have := h2 i hi
    rw [List.getD_eq_getElem?_getD, List.getElem?_eq_getElem hi, Option.getD_some, e] at this
    rw [this]; simp
  unfold chgOk; rw [h0, e1, e2]; rfl
theorem bad_eq (l : List File) (gone : List Int) (i : Nat) : badZ l gone i = (inZ (gone.getD i default) (gone.take i) || !hasF l (gone.getD i default)) := rfl
theorem kept_eq (gone : List Int) (f : File) : keptF gone f = !inZ f.id gone := rfl
theorem next_eq (n : Int) (f : File) : nextF n f = if n < f.id + 1 then f.id + 1 else n := rfl
theorem big_eq (f : File) : bigF f = decide (1099511627776 < f.id) := rfl
theorem new_eq (v : Ver) (gone : List Int) (add : List File) : newV v gone add = ⟨add.foldl nextF v.next, Srt.stabF ltF (v.files.filter (keptF gone) ++ add)⟩ := rfl
theorem nextF_le {n : Int} {f : File} (h : n ≤ 1099511627777) (k : bigF f = false) : nextF n f ≤ 1099511627777 := by
  unfold bigF at k
  rw [decide_eq_false_iff_not] at k
  unfold nextF
  split <;> omega
theorem nextF_ge {n : Int} {f : File} : n ≤ nextF n f := by
  unfold nextF
  split <;> omega
end Go.Lv
set_option maxRecDepth 8000
set_option linter.unusedVariables false
namespace Go.Proofs.Ytohhhaeemephnaa
open Go.Vk
attribute [local irreducible] HT HX RegS RegA RegM OpP OpC AltT
theorem ixInt11 (l : List Int) (n : Int) (hl : l.length ≤ 1152921504606846976) : CFn Try.prog 59 [TSl 1 Lv.cZ l, okI .i64 n] (okI .i64 (Lv.ixOf (fun k => decide (n = k)) l)) := by
  refine CallsC.of Try.call59 Try.func59 rfl Try.ntmps59 rfl fun w0 G0 S0 hs ho => ?_
  refine run ?_
  refine HT.loopX (σ := Nat) [0, 1, 7] (fun i => [(8, okI .i64 (i : Int))]) (fun i => []) (fun i => i ≤ l.length ∧ (l.take i).any (fun k => decide (n = k)) = false) (fun i => l.length - i) 0 ⟨by omega, by simp⟩ (run trivial) (run trivial) ?_
  rintro i ⟨hi, hp⟩
  refine run ?_
  refine ⟨fun h1 h2 => ?_, fun h1 h2 => ?_, fun h1 => ?_⟩
  · exact (Lv.ixOf_at (by omega) hp (decide_eq_true h2)).symm
  · exact HX.roundX (i + 1) ⟨⟨by omega, Lv.any_go (by omega) hp (decide_eq_false h2)⟩, by omega⟩ rfl (run trivial) (run trivial)
  · exact (Lv.ixOf_none (by rwa [List.take_of_length_le (by omega)] at hp)).symm
theorem inInt11 (l : List Int) (n : Int) (hl : l.length ≤ 1152921504606846976) : CFn Try.prog 47 [TSl 1 Lv.cZ l, okI .i64 n] (Is (.bool (Lv.inZ n l))) := by
  have c1 := ixInt11 l n hl
  refine CallsC.of Try.call47 Try.func47 rfl Try.ntmps47 rfl fun w0 G0 S0 hs ho => ?_
  refine run ?_
  exact Lv.ixOf_nonneg
theorem ixFile {f : FuncId} {Cs : List Ty} (l : List Lv.File) (p : Lv.File → Bool) (hl : l.length ≤ 1152921504606846976) (cf : ∀ a, CFn Try.prog f ([TAgg (Lv.cFile a)] ++ Cs) (Is (.bool (p a)))) : CFn Try.prog 60 [TSl 5 Lv.cFile l, TFn f Cs] (okI .i64 (Lv.ixOf p l)) := by
  refine CallsC.of Try.call60 Try.func60 rfl Try.ntmps60 rfl fun w0 G0 S0 hs ho => ?_
  refine run ?_
  refine HT.loopX (σ := Nat) [0, 1, 7] (fun i => [(8, okI .i64 (i : Int))]) (fun i => []) (fun i => i ≤ l.length ∧ (l.take i).any p = false) (fun i => l.length - i) 0 ⟨by omega, by simp⟩ (run trivial) (run trivial) ?_
  rintro i ⟨hi, hp⟩
  have cf' := cf (l.getD i default)
  clear cf
  refine run ?_
  refine ⟨fun h1 h2 => ?_, fun h1 h2 => ?_, fun h1 => ?_⟩
  · exact (Lv.ixOf_at (by omega) hp h2).symm
  · exact HX.roundX (i + 1) ⟨⟨by omega, Lv.any_go (by omega) hp h2⟩, by omega⟩ rfl (run trivial) (run trivial)
  · exact (Lv.ixOf_none (by rwa [List.take_of_length_le (by omega)] at hp)).symm
theorem anyFile {f : FuncId} {Cs : List Ty} (l : List Lv.File) (p : Lv.File → Bool) (hl : l.length ≤ 1152921504606846976) (cf : ∀ a, CFn Try.prog f ([TAgg (Lv.cFile a)] ++ Cs) (Is (.bool (p a)))) : CFn Try.prog 48 [TSl 5 Lv.cFile l, TFn f Cs] (Is (.bool (l.any p))) := by
  have c1 := ixFile l p hl cf
  clear cf
  refine CallsC.of Try.call48 Try.func48 rfl Try.ntmps48 rfl fun w0 G0 S0 hs ho => ?_
  refine run ?_
  exact Lv.ixOf_nonneg
theorem lvChange1 (a : Lv.File) (n : Int) : CFn Try.prog 49 ([TAgg (Lv.cFile a)] ++ [TPc [okI .i64 n]]) (Is (.bool (decide (a.id = n)))) := by
  refine CallsC.of Try.call49 Try.func49 rfl Try.ntmps49 rfl fun w0 G0 S0 hs ho => ?_
  exact run trivial
theorem hasFile (l : List Lv.File) (hl : l.length ≤ 1152921504606846976) (n : Int) : CFn Try.prog 48 [TSl 5 Lv.cFile l, TFn 49 [TPc [okI .i64 n]]] (Is (.bool (Lv.hasF l n))) :=
  anyFile l (fun f => decide (f.id = n)) hl (fun a => lvChange1 a n)
end Go.Proofs.Ytohhhaeemephnaa
set_option maxRecDepth 8000
set_option linter.unusedVariables false
namespace Go.Proofs.Ytohhhaeemephnaa
open Go.Vk
attribute [local irreducible] HT HX RegS RegA RegM OpP OpC AltT
attribute [local irreducible] Lv.isV Lv.inZ Lv.hasF Srt.stabF Lv.badZ Lv.keptF Lv.nextF Lv.bigF Lv.newV Lv.chgOk Lv.chgV Lv.chgE
set_option maxHeartbeats 8000000 in
theorem lvChange (v : Lv.Ver) (gone : List Int) (add : List Lv.File) (hg : gone.length ≤ 50) (ha : add.length ≤ 1000) (hok : ∀ i, i < add.length → Lv.Okf (add.getD i default)) : CFn Try.prog 24 [TAgg (Lv.cVer v), TSl 1 Lv.cZ gone, TSl 5 Lv.cFile add] (TTup [TAgg (Lv.cVer (Lv.chgV v gone add)), okI .i64 (Lv.chgE v gone add)]) := by
  have c0 := lvIs v
  cases hN : Lv.isV v with
  | false =>
    rw [hN] at c0
    obtain ⟨e1, e2⟩ := Lv.chg_no (Lv.chg_no0 (gone := gone) (add := add) hN)
    rw [e1, e2]
    refine CallsC.of Try.call24 Try.func24 rfl Try.ntmps24 rfl fun w0 G0 S0 hs ho => ?_
    refine run ?_
    exact ⟨fun _ _ => rfl, fun _ _ => rfl⟩
  | true =>
    rw [hN] at c0
    have hV := Lv.isV_head hN
    have c1 := inInt11
    have c2 := hasFile v.files (by omega)
    refine CallsC.of Try.call24 Try.func24 rfl Try.ntmps24 rfl fun w0 G0 S0 hs ho => ?_
    refine run ?_
    intro v1 v2 _
    refine HT.loopX (σ := Nat) [1, 2, 3, 6, 8, 22, 23] (fun i => [(24, okI .i64 (i : Int))]) (fun i => [ownP (blk v1) 24 [okI .i64 0, Is (.slice none 0 0)], ownP (blk v2) 24 [okI .i64 v.next, Is (.slice none 0 0)]]) (fun i => i ≤ gone.length ∧ ∀ j, j < i → Lv.badZ v.files gone j = false) (fun i => gone.length - i) 0 ⟨Nat.zero_le _, by omega⟩ (run trivial) (run trivial) ?_
    rintro i ⟨hi, hb⟩
    by_cases hlt : i < gone.length
    · have et : ((i : Int)).toNat = i := by omega
      have st := Stop.mk' 7
      refine run ?_
      intros
      refine HTs.mk ?_
      refine HT.giveC (t := 10) 2 rfl rfl ?_
      clear st
      refine run ?_
      have hz1 : Lv.inZ (gone.getD i default) (gone.take i) = true ∨ Lv.hasF v.files (gone.getD i default) = false → Lv.chgOk v gone add = false := fun h => Lv.chg_no1 hlt (by rw [Lv.bad_eq]; rcases h with h | h <;> rw [h] <;> simp)
      refine ⟨fun h => ?_, fun h => ?_, fun h => ?_, fun h => ?_⟩
      · rw [(Lv.chg_no (hz1 h)).1]; rfl
      · rw [(Lv.chg_no (hz1 h)).1]; rfl
      · rw [(Lv.chg_no (hz1 h)).2]
      · refine HX.roundX (i + 1) ⟨⟨by omega, fun j hj => ?_⟩, by omega⟩ rfl (run trivial) (run trivial)
        rcases (by omega : j < i ∨ j = i) with hj | rfl
        · exact hb j hj
        · rw [Lv.bad_eq, h.1, h.2]; rfl
    have hb' : ∀ i, i < gone.length → Lv.badZ v.files gone i = false := fun j hj => hb j (by omega)
    clear hb
    refine run ?_
    intro _
    refine HT.loopX (σ := Nat × List Lv.File × Value) [1, 2, 6, 8, 44, 45] (fun t => [(46, okI .i64 (t.1 : Int))]) (fun t => [ownP (blk v1) 24 [okI .i64 0, Is (.slice none 0 0)], ownP (blk v2) 24 [okI .i64 v.next, Is t.2.2], ownR t.2.2 31 5 Lv.cFile t.2.1]) (fun t => t.1 ≤ v.files.length ∧ t.2.1 = (v.files.take t.1).filter (Lv.keptF gone) ∧ t.2.1.length ≤ t.1) (fun t => v.files.length - t.1) (0, [], .slice none 0 0) ⟨Nat.zero_le _, rfl, Nat.le_refl _⟩ (run trivial) (run trivial) ?_
    rintro ⟨i, acc, u⟩ ⟨hi2, hac, hal⟩
    dsimp only at hi2 hac hal ⊢
    by_cases hlt2 : i < v.files.length
    · have hin : Lv.inZ (v.files.getD i default).id gone = !Lv.keptF gone (v.files.getD i default) := by rw [Lv.kept_eq]; simp
      refine run ?_
      refine ⟨fun _ u' _ h => ?_, fun _ _ h => ?_⟩
      · rw [hin, Bool.not_eq_false'] at h
        exact HX.roundX (i + 1, acc ++ [v.files.getD i default], u') ⟨⟨by dsimp only; omega, Lv.filter_yes hlt2 hac h, by dsimp only; rw [List.length_append]; simp; omega⟩, by dsimp only; omega⟩ rfl (run trivial) (run trivial)
      · rw [hin, Bool.not_eq_true'] at h
        exact HX.roundX (i + 1, acc, u) ⟨⟨by dsimp only; omega, Lv.filter_no hlt2 hac h, by dsimp only; omega⟩, by dsimp only; omega⟩ rfl (run trivial) (run trivial)
    have hac' := Lv.filter_end hlt2 hac
    clear hac
    refine run ?_
    intro _
    refine HT.loopX (σ := Nat × List Lv.File × Value × Int) [6, 8, 62, 63] (fun t => [(64, okI .i64 (t.1 : Int))]) (fun t => [ownP (blk v1) 24 [okI .i64 0, Is (.slice none 0 0)], ownP (blk v2) 24 [okI .i64 t.2.2.2, Is t.2.2.1], ownR t.2.2.1 31 5 Lv.cFile t.2.1]) (fun t => (t.1 ≤ add.length ∧ t.2.1 = acc ++ add.take t.1 ∧ t.2.1.length ≤ v.files.length + t.1) ∧ (t.2.2.2 = (add.take t.1).foldl Lv.nextF v.next ∧ v.next ≤ t.2.2.2 ∧ t.2.2.2 ≤ 1099511627777) ∧ ∀ j, j < t.1 → Lv.bigF (add.getD j default) = false) (fun t => add.length - t.1) (0, acc, u, v.next) ⟨⟨Nat.zero_le _, by simp, by dsimp only; omega⟩, ⟨rfl, Int.le_refl _, by dsimp only; omega⟩, by dsimp only; omega⟩ (run trivial) (run trivial) ?_
    rintro ⟨k, bcc, w, nx⟩ ⟨⟨hk, hbc, hbl⟩, ⟨hn1, hn2, hn3⟩, hbg⟩
    dsimp only at hk hbc hbl hn1 hn2 hn3 hbg ⊢
    by_cases hlt3 : k < add.length
    · have ho := (hok k hlt3).1
      unfold Lv.okK at ho
      have hz2 : 1099511627776 < (add.getD k default).id → Lv.chgOk v gone add = false := fun h => Lv.chg_no2 hlt3 (by rw [Lv.big_eq]; exact decide_eq_true h)
      refine run ?_
      refine ⟨fun _ _ h => ?_, fun _ _ h => ?_, fun _ _ h => ?_, fun _ w' _ h => ?_⟩
      · rw [(Lv.chg_no (hz2 h)).1]; rfl
      · rw [(Lv.chg_no (hz2 h)).1]; rfl
      · rw [(Lv.chg_no (hz2 h)).2]
      · have hbk : Lv.bigF (add.getD k default) = false := by rw [Lv.big_eq]; exact decide_eq_false h
        have hnk := Lv.nextF_le hn3 hbk
        have hnl := Lv.nextF_ge (n := nx) (f := add.getD k default)
        have hfs := Lv.foldl_snoc Lv.nextF v.next hlt3
        rw [← hn1] at hfs
        rw [← Lv.next_eq]
        refine HX.roundX (k + 1, bcc ++ [add.getD k default], w', Lv.nextF nx (add.getD k default)) ⟨⟨⟨by dsimp only; omega, ?_, by dsimp only; rw [List.length_append]; simp; omega⟩, ⟨hfs.symm, by dsimp only; omega, by dsimp only; omega⟩, fun j hj => ?_⟩, by dsimp only; omega⟩ rfl (run trivial) (run trivial)
        · dsimp only
          rw [hbc, List.append_assoc, take_snoc hlt3 rfl]
        · dsimp only at hj
          rcases (by omega : j < k ∨ j = k) with hj | rfl
          · exact hbg j hj
          · exact hbk
    have hk' : k = add.length := by omega
    rw [hk', List.take_length] at hbc hn1
    have hxn : Lv.newV v gone add = ⟨nx, Srt.stabF ltF bcc⟩ := by rw [Lv.new_eq, hn1, hbc, hac']
    have hxo := Lv.chg_is hN hb' (fun j hj => hbg j (by omega))
    rw [hxn] at hxo
    have c4 := fun u => lvSortR u bcc (by omega)
    have c5 := lvIs ⟨nx, Srt.stabF ltF bcc⟩
    have st := Stop.mk' 25
    refine run ?_
    intro _
    refine HTs.mk ?_
    refine HT.giveRP (j := 1) 2 1 rfl rfl rfl rfl ?_
    clear st c0 c1 c2 c4
    cases hF : Lv.isV ⟨nx, Srt.stabF ltF bcc⟩ with
    | true =>
      rw [hF] at hxo c5
      rw [(Lv.chg_yes hxo).1, (Lv.chg_yes hxo).2, hxn]
      exact run trivial
    | false =>
      rw [hF] at hxo c5
      rw [(Lv.chg_no hxo).1, (Lv.chg_no hxo).2]
      refine run ?_
      and_intros <;> intros <;> rfl
end Go.Proofs.Ytohhhaeemephnaa
set_option linter.unusedVariables false
namespace Go.Lv
open Go.Vk
def notF (n : Int) (f : File) : Bool := !decide (f.id = n)
def rmF (l : List File) (n : Int) : List File := l.filter (notF n)
def gonD : List File → List Int → Option (List File)
  | l, [] => some l
  | l, g :: r => if (rmF l g).length = l.length then none else gonD (rmF l g) r
def ixA (l : List File) (f : File) : Nat := l.findIdx fun g => !ahead g f
def insA (l : List File) (f : File) : List File := l.take (ixA l f) ++ [f] ++ l.drop (ixA l f)
def addD : Ver → List File → Option Ver
  | x, [] => some x
  | x, f :: r => if x.next ≤ f.id then (if 1099511627776 ≤ f.id then none else addD ⟨f.id + 1, insA x.files f⟩ r) else addD ⟨x.next, insA x.files f⟩ r
def allD (v : Ver) (gone : List Int) (add : List File) : Option Ver := (gonD v.files gone).bind fun l => addD ⟨v.next, l⟩ add
def okCD (v : Ver) (gone : List Int) (add : List File) : Bool := isV v && (match allD v gone add with | none => false | some x => isV x)
def chgVD (v : Ver) (gone : List Int) (add : List File) : Ver := if okCD v gone add = true then (allD v gone add).getD zV else zV
def chgED (v : Ver) (gone : List Int) (add : List File) : Int := if okCD v gone add = true then 0 else 1
theorem gonD_go {l : List File} {gone : List Int} {i : Nat} (h : i < gone.length) (k : ¬ (rmF l (gone.getD i default)).length = l.length) : gonD l (gone.drop i) = gonD (rmF l (gone.getD i default)) (gone.drop (i + 1)) := by
  have e : gone.drop i = gone.getD i default :: gone.drop (i + 1) := by rw [List.drop_eq_getElem_cons h, List.getD_eq_getElem?_getD, List.getElem?_eq_getElem h]; rfl
  rw [e, gonD, if_neg k]
theorem gonD_no {l : List File} {gone : List Int} {i : Nat} (h : i < gone.length) (k : (rmF l (gone.getD i default)).length = l.length) : gonD l (gone.drop i) = none := by
  have e : gone.drop i = gone.getD i default :: gone.drop (i + 1) := by rw [List.drop_eq_getElem_cons h, List.getD_eq_getElem?_getD, List.getElem?_eq_getElem h]; rfl
  rw [e, gonD, if_pos k]
theorem gonD_end {l : List File} {gone : List Int} {i : Nat} (h : ¬ i < gone.length) : gonD l (gone.drop i) = some l := by
  rw [List.drop_of_length_le (by omega), gonD]
theorem add_cons {add : List File} {i : Nat} (h : i < add.length) : add.drop i = add.getD i default :: add.drop (i + 1) := by
  rw [List.drop_eq_getElem_cons h, List.getD_eq_getElem?_getD, List.getElem?_eq_getElem h]; rfl
theorem addD_big {x : Ver} {add : List File} {i : Nat} (h : i < add.length) (k : x.next ≤ (add.getD i default).id) (b : 1099511627776 ≤ (add.getD i default).id) : addD x (add.drop i) = none := by
  rw [add_cons h, addD, if_pos k, if_pos b]
theorem addD_up {x : Ver} {add : List File} {i : Nat} (h : i < add.length) (k : x.next ≤ (add.getD i default).id) (b : ¬ 1099511627776 ≤ (add.getD i default).id) : addD x (add.drop i) = addD ⟨(add.getD i default).id + 1, insA x.files (add.getD i default)⟩ (add.drop (i + 1)) := by
  rw [add_cons h, addD, if_pos k, if_neg b]
theorem addD_in {x : Ver} {add : List File} {i : Nat} (h : i < add.length) (k : ¬ x.next ≤ (add.getD i default).id) : addD x (add.drop i) = addD ⟨x.next, insA x.files (add.getD i default)⟩ (add.drop (i + 1)) := by
  rw [add_cons h, addD, if_neg k]
theorem addD_end {x : Ver} {add : List File} {i : Nat} (h : ¬ i < add.length) : addD x (add.drop i) = some x := by
  rw [List.drop_of_length_le (by omega), addD]
theorem ixA_le (l : List File) (f : File) : ixA l f ≤ l.length := List.findIdx_le_length
theorem insA_eq (l : List File) (f : File) : insA l f = l.take (ixA l f) ++ [f] ++ l.drop (ixA l f) := rfl
theorem insA_len (l : List File) (f : File) : (insA l f).length = l.length + 1 := by
  unfold insA
  have := ixA_le l f
  simp only [List.length_append, List.length_take, List.length_drop, List.length_cons, List.length_nil]
  omega
theorem ixA_at {l : List File} {f : File} {i : Nat} (hi : i ≤ l.length) (h : ∀ j, j < i → ahead (l.getD j default) f = true) (k : ¬ i < l.length ∨ ahead (l.getD i default) f = false) : ixA l f = i := by
  unfold ixA
  by_cases hlt : i < l.length
  · rw [List.findIdx_eq hlt]
    have k' : ahead (l.getD i default) f = false := by rcases k with k | k; exact (k hlt).elim; exact k
    refine ⟨?_, fun j hj => ?_⟩
    · rw [List.getD_eq_getElem?_getD, List.getElem?_eq_getElem hlt, Option.getD_some] at k'
      rw [k']; rfl
    · have := h j hj
      rw [List.getD_eq_getElem?_getD, List.getElem?_eq_getElem (by omega), Option.getD_some] at this
      rw [this]; rfl
  · have e : i = l.length := by omega
    subst e
    rw [List.findIdx_eq_length]
    intro x hx
    obtain ⟨j, hj, e⟩ := List.getElem_of_mem hx
    have := h j hj
    rw [List.getD_eq_getElem?_getD, List.getElem?_eq_getElem hj, Option.getD_some, e] at this
    rw [this]; rfl
theorem chgD_no {v : Ver} {gone : List Int} {add : List File} (h : okCD v gone add = false) : chgVD v gone add = zV ∧ chgED v gone add = 1 := by
  unfold chgVD chgED
  rw [h]
  exact ⟨rfl, rfl⟩
theorem chgD_yes {v x : Ver} {gone : List Int} {add : List File} (h : okCD v gone add = true) (k : allD v gone add = some x) : chgVD v gone add = x ∧ chgED v gone add = 0 := by
  unfold chgVD chgED
  rw [h, k]
  exact ⟨rfl, rfl⟩
theorem okCD_0 {v : Ver} {gone : List Int} {add : List File} (h : isV v = false) : okCD v gone add = false := by unfold okCD; rw [h]; rfl
theorem okCD_none {v : Ver} {gone : List Int} {add : List File} (h : allD v gone add = none) : okCD v gone add = false := by unfold okCD; rw [h]; simp
theorem okCD_some {v x : Ver} {gone : List Int} {add : List File} (h0 : isV v = true) (h : allD v gone add = some x) : okCD v gone add = isV x := by unfold okCD; rw [h, h0]; simp
theorem allD_1 {v : Ver} {gone : List Int} {add : List File} (h : gonD v.files gone = none) : allD v gone add = none := by unfold allD; rw [h]; rfl
theorem allD_2 {v : Ver} {l : List File} {gone : List Int} {add : List File} (h : gonD v.files gone = some l) : allD v gone add = addD ⟨v.next, l⟩ add := by unfold allD; rw [h]; rfl
theorem not_eq (n : Int) (f : File) : notF n f = !decide (f.id = n) := rfl
theorem rmF_len (l : List File) (n : Int) : (rmF l n).length ≤ l.length := List.length_filter_le _ _
/-! ### the order -/
open Go.Proofs.Ytohhhaeemephnaa (ltF)
theorem ltF_ahead (a b : File) : ltF a b = ahead a b := by
  unfold ltF
  rw [Bool.eq_iff_iff, decide_eq_true_eq]
  exact cmpF_neg
theorem ahead_asymm {a b : File} (h : ahead a b = true) : ahead b a = false := by
  unfold ahead at h ⊢
  by_cases e : a.level = b.level
  · rw [if_neg (by simp [e])] at h
    rw [if_neg (by simp [e])]
    by_cases z : a.level = 0
    · rw [if_pos z, decide_eq_true_eq] at h
      rw [if_pos (by omega)]
      exact decide_eq_false (by omega)
    · rw [if_neg z] at h
      rw [if_neg (by omega)]
      exact sless_asymm h
  · rw [if_pos e, decide_eq_true_eq] at h
    rw [if_pos (fun k => e k.symm)]
    exact decide_eq_false (by omega)
/-- What stands ahead of one stands ahead of another, or that other one ahead of the one. -/
theorem ahead_weak {a b c : File} (h : ahead a c = true) : ahead a b = true ∨ ahead b c = true := by
  unfold ahead at h ⊢
  by_cases e : a.level = c.level
  · rw [if_neg (by simp [e])] at h
    by_cases e1 : a.level = b.level
    · rw [if_neg (show ¬ a.level ≠ b.level by omega), if_neg (show ¬ b.level ≠ c.level by omega)]
      by_cases z : a.level = 0
      · rw [if_pos z, decide_eq_true_eq] at h
        rw [if_pos z, if_pos (show b.level = 0 by omega), decide_eq_true_eq, decide_eq_true_eq]
        omega
      · rw [if_neg z] at h
        rw [if_neg z, if_neg (show ¬ b.level = 0 by omega)]
        rcases sless_total a.first b.first with k | k | k
        · exact .inl k
        · rw [← k]; exact .inr h
        · exact .inr (sless_trans k h)
    · rw [if_pos e1, if_pos (show b.level ≠ c.level by omega), decide_eq_true_eq, decide_eq_true_eq]
      omega
  · rw [if_pos e, decide_eq_true_eq] at h
    by_cases e1 : a.level = b.level
    · right
      rw [if_pos (fun k => e (by omega)), decide_eq_true_eq]; omega
    · rw [if_pos e1, decide_eq_true_eq]
      by_cases e2 : b.level = c.level
      · left; omega
      · rw [if_pos e2, decide_eq_true_eq]; omega
theorem R.ahead {a b : File} (ha : goodF a) (h : R a b) : ahead a b = true := by
  unfold R at h
  unfold Lv.ahead
  rcases h with h | ⟨h1, h2, h3⟩
  · rw [if_pos (by omega)]; exact decide_eq_true h
  · rw [if_neg (by simp [h1])]
    by_cases z : a.level = 0
    · rw [if_pos z]; exact decide_eq_true (h2 z)
    · rw [if_neg z]; exact sle_lt ha.2 (h3 z)
theorem isV_ahead {v : Ver} (h : isV v = true) : v.files.Pairwise fun a b => ahead a b = true := by
  refine List.Pairwise.imp_of_mem ?_ (isV_pair h)
  intro a b ha _ hr
  exact hr.ahead (good_of (isV_one h ha))
/-- None stands behind one that it is ahead of. -/
def Wk (l : List File) : Prop := l.Pairwise fun a b => ahead b a = false
theorem Wk.of {l : List File} (h : l.Pairwise fun a b => ahead a b = true) : Wk l := h.imp fun h => ahead_asymm h
theorem Wk.one {l d : List File} (h : Wk l) (hd : d.Pairwise fun a b => ahead a b = true) (hp : d.Perm l) : d = l := by
  refine List.Perm.eq_of_pairwise (le := fun a b => ahead b a = false) ?_ (Wk.of hd) h hp
  intro a b h1 h2 h3 h4
  have h2' := hp.mem_iff.2 h2
  obtain ⟨i, hi, e1⟩ := List.getElem_of_mem h1
  obtain ⟨j, hj, e2⟩ := List.getElem_of_mem h2'
  rcases Nat.lt_trichotomy i j with k | k | k
  · have := List.pairwise_iff_getElem.1 hd i j hi hj k
    rw [e1, e2, h4] at this; cases this
  · subst k; rw [← e1, ← e2]
  · have := List.pairwise_iff_getElem.1 hd j i hj hi k
    rw [e1, e2, h3] at this; cases this
theorem ixA_below {l : List File} {f : File} {j : Nat} (h : j < ixA l f) (hj : j < l.length) : ahead l[j] f = true := by
  have := List.not_of_lt_findIdx h
  simpa using this
theorem Wk.ins {l : List File} (h : Wk l) (f : File) : Wk (insA l f) := by
  have h0 : l = l.take (ixA l f) ++ l.drop (ixA l f) := (List.take_append_drop _ _).symm
  have h1 := h
  unfold Wk at h1
  rw [h0, List.pairwise_append] at h1
  obtain ⟨p1, p2, p3⟩ := h1
  have q1 : ∀ a ∈ l.take (ixA l f), ahead f a = false := fun a ha => by
    obtain ⟨j, hj, e⟩ := List.getElem_of_mem ha
    rw [List.length_take] at hj
    rw [List.getElem_take] at e
    rw [← e]
    exact ahead_asymm (ixA_below (by omega) (by omega))
  have q2 : ∀ b ∈ l.drop (ixA l f), ahead b f = false := fun b hb => by
    obtain ⟨j, hj, e⟩ := List.getElem_of_mem hb
    rw [List.length_drop] at hj
    rw [List.getElem_drop] at e
    have hk : ixA l f < l.length := by omega
    have e0 : ahead l[ixA l f] f = false := by
      have h9 : (!ahead l[ixA l f] f) = true := List.findIdx_getElem (p := fun g => !ahead g f) (xs := l) (w := hk)
      cases hh : ahead l[ixA l f] f with
      | false => rfl
      | true => rw [hh] at h9; cases h9
    cases hb2 : ahead b f with
    | false => rfl
    | true =>
      by_cases hj0 : j = 0
      · subst hj0
        rw [← e] at hb2
        simp only [Nat.add_zero] at hb2
        rw [e0] at hb2; cases hb2
      · have hw := List.pairwise_iff_getElem.1 h (ixA l f) (ixA l f + j) hk (by omega) (by omega)
        rw [e] at hw
        rcases ahead_weak (b := l[ixA l f]) hb2 with k | k
        · rw [hw] at k; cases k
        · rw [e0] at k; cases k
  unfold Wk
  rw [insA_eq, List.append_assoc, List.pairwise_append]
  refine ⟨p1, ?_, fun a ha b hb => ?_⟩
  · rw [List.singleton_append, List.pairwise_cons]
    exact ⟨q2, p2⟩
  · rw [List.singleton_append, List.mem_cons] at hb
    rcases hb with rfl | hb
    · exact q1 a ha
    · exact p3 a ha b hb
theorem insA_perm (l : List File) (f : File) : (insA l f).Perm (l ++ [f]) := by
  rw [insA_eq, List.append_assoc, List.singleton_append]
  refine List.perm_middle.trans ?_
  rw [List.take_append_drop]
  exact (List.perm_append_singleton f l).symm
/-! ### what is taken away -/
theorem inZ_cons (n g : Int) (r : List Int) : inZ n (g :: r) = (decide (n = g) || inZ n r) := rfl
theorem kept_cons (g : Int) (r : List Int) (l : List File) : (rmF l g).filter (keptF r) = l.filter (keptF (g :: r)) := by
  unfold rmF
  rw [List.filter_filter]
  congr 1
  funext f
  rw [kept_eq, kept_eq, inZ_cons, not_eq, Bool.not_or, Bool.and_comm]
theorem has_rm (l : List File) (g n : Int) : hasF (rmF l g) n = (hasF l n && !decide (n = g)) := by
  unfold hasF rmF
  rw [Bool.eq_iff_iff, Bool.and_eq_true, List.any_eq_true, List.any_eq_true]
  simp only [List.mem_filter, not_eq, decide_eq_true_eq, Bool.not_eq_true', decide_eq_false_iff_not]
  constructor
  · rintro ⟨f, ⟨h1, h2⟩, h3⟩; exact ⟨⟨f, h1, h3⟩, fun e => h2 (by omega)⟩
  · rintro ⟨⟨f, h1, h3⟩, h2⟩; exact ⟨f, ⟨h1, fun e => h2 (by omega)⟩, h3⟩
theorem rm_same (l : List File) (g : Int) : (rmF l g).length = l.length ↔ hasF l g = false := by
  unfold rmF hasF
  rw [List.length_filter_eq_length_iff, List.any_eq_false]
  simp only [not_eq, Bool.not_eq_true', decide_eq_false_iff_not, decide_eq_true_eq]
theorem badG_cons (l : List File) (g : Int) (r : List Int) : badG l (g :: r) = (!hasF l g || badG (rmF l g) r) := by
  unfold badG
  rw [List.length_cons, List.range_succ_eq_map, List.any_cons, List.any_map]
  have e0 : badZ l (g :: r) 0 = !hasF l g := by rw [bad_eq]; rfl
  have e1 : badZ l (g :: r) ∘ Nat.succ = badZ (rmF l g) r := by
    funext i
    show badZ l (g :: r) (i + 1) = badZ (rmF l g) r i
    rw [bad_eq, bad_eq, List.take_succ_cons, inZ_cons, has_rm]
    rw [show (g :: r).getD (i + 1) default = r.getD i default from rfl]
    cases hasF l (r.getD i default) <;> cases inZ (r.getD i default) (r.take i) <;> simp
  rw [e0, e1]
theorem gonD_spec : ∀ (gone : List Int) (l : List File), gonD l gone = if badG l gone = true then none else some (l.filter (keptF gone))
  | [], l => by
    rw [gonD, if_neg (by unfold badG; simp)]
    congr 1
    exact (List.filter_eq_self.2 fun f _ => rfl).symm
  | g :: r, l => by
    rw [gonD, badG_cons]
    cases h : hasF l g with
    | false => rw [if_pos ((rm_same l g).2 h)]; simp
    | true =>
      rw [if_neg (fun k => by rw [(rm_same l g).1 k] at h; cases h), gonD_spec r (rmF l g), kept_cons]
      simp
/-! ### what is laid in -/
theorem addD_spec : ∀ (add : List File) (x : Ver), x.next ≤ 1099511627776 → Wk x.files → (addD x add = none ∧ (add.any bigF = true ∨ 1099511627776 < add.foldl nextF x.next)) ∨ ∃ y, addD x add = some y ∧ add.any bigF = false ∧ y.next = add.foldl nextF x.next ∧ y.files.Perm (x.files ++ add) ∧ Wk y.files
  | [], x, hx, hw => .inr ⟨x, by rw [addD], rfl, rfl, by rw [List.append_nil], hw⟩
  | f :: r, x, hx, hw => by
    have hmono : ∀ (l : List File) (n : Int), n ≤ l.foldl nextF n := fun l => by
      induction l with
      | nil => intro n; exact Int.le_refl _
      | cons g l ih => intro n; rw [List.foldl_cons]; exact Int.le_trans nextF_ge (ih _)
    have hperm : ∀ y : List File, y.Perm (insA x.files f ++ r) → y.Perm (x.files ++ f :: r) := fun y h => by
      refine h.trans ?_
      have := (insA_perm x.files f).append_right r
      rwa [List.append_assoc, List.singleton_append] at this
    rw [addD]
    by_cases h1 : x.next ≤ f.id
    · rw [if_pos h1]
      by_cases h2 : 1099511627776 ≤ f.id
      · rw [if_pos h2]
        refine .inl ⟨rfl, .inr ?_⟩
        rw [List.foldl_cons, next_eq, if_pos (by omega)]
        have := hmono r (f.id + 1)
        omega
      · rw [if_neg h2]
        have hb : bigF f = false := by rw [big_eq]; exact decide_eq_false (by omega)
        have e : nextF x.next f = f.id + 1 := by rw [next_eq, if_pos (by omega)]
        rcases addD_spec r ⟨f.id + 1, insA x.files f⟩ (by dsimp only; omega) (hw.ins f) with ⟨k1, k2⟩ | ⟨y, k1, k2, k3, k4, k5⟩
        · refine .inl ⟨k1, ?_⟩
          rw [List.any_cons, List.foldl_cons, hb, e]
          simpa using k2
        · refine .inr ⟨y, k1, by rw [List.any_cons, hb, k2]; rfl, by rw [List.foldl_cons, e]; exact k3, hperm _ k4, k5⟩
    · rw [if_neg h1]
      have hb : bigF f = false := by rw [big_eq]; exact decide_eq_false (by omega)
      have e : nextF x.next f = x.next := by rw [next_eq, if_neg (by omega)]
      rcases addD_spec r ⟨x.next, insA x.files f⟩ hx (hw.ins f) with ⟨k1, k2⟩ | ⟨y, k1, k2, k3, k4, k5⟩
      · refine .inl ⟨k1, ?_⟩
        rw [List.any_cons, List.foldl_cons, hb, e]
        simpa using k2
      · refine .inr ⟨y, k1, by rw [List.any_cons, hb, k2]; rfl, by rw [List.foldl_cons, e]; exact k3, hperm _ k4, k5⟩
/-- The program's way and the document's make one. -/
theorem chg_one (v : Ver) (gone : List Int) (add : List File) (ha : add.length ≤ 1000) : chgOk v gone add = okCD v gone add ∧ (okCD v gone add = true → allD v gone add = some (newV v gone add)) := by
  cases h0 : isV v with
  | false => rw [chg_no0 h0, okCD_0 h0]; exact ⟨rfl, fun h => by cases h⟩
  | true =>
    have hV := isV_head h0
    have hg := gonD_spec gone v.files
    cases hb : badG v.files gone with
    | true =>
      rw [hb, if_pos rfl] at hg
      rw [okCD_none (allD_1 hg)]
      refine ⟨?_, fun h => by cases h⟩
      unfold chgOk; rw [hb]; simp
    | false =>
      rw [hb, if_neg (by simp)] at hg
      have hA := allD_2 (add := add) hg
      have hw : Wk (v.files.filter (keptF gone)) := Wk.of ((isV_ahead h0).filter _)
      have hfl := List.length_filter_le (keptF gone) v.files
      rcases addD_spec add ⟨v.next, v.files.filter (keptF gone)⟩ hV.2.1 hw with ⟨k1, k2⟩ | ⟨y, k1, k2, k3, k4, k5⟩
      · rw [k1] at hA
        rw [okCD_none hA]
        refine ⟨?_, fun h => by cases h⟩
        unfold chgOk
        rcases k2 with k2 | k2
        · rw [k2]; simp
        · have : isV (newV v gone add) = false := by
            cases e : isV (newV v gone add) with
            | false => rfl
            | true => have := (isV_head e).2.1; rw [new_eq] at this; dsimp only at this k2; omega
          rw [this]; simp
      · rw [k1] at hA
        have hok : chgOk v gone add = isV (newV v gone add) := by unfold chgOk; rw [h0, hb, k2]; simp
        rw [okCD_some h0 hA, hok, hA]
        dsimp only at k3 k4
        have hlen : (v.files.filter (keptF gone) ++ add).length ≤ Srt.fuelF := Srt.fuel_le (by rw [List.length_append]; omega)
        have hst := Srt.stab_perm (lt := ltF) (v.files.filter (keptF gone) ++ add) hlen
        have hsame : isV y = true → y = newV v gone add := fun hy => by
          have := Srt.stab_strict (lt := ltF) (l := v.files.filter (keptF gone) ++ add) (d := y.files) hlen k4 ((isV_ahead hy).imp fun h => by rw [ltF_ahead]; exact h) (fun a b p q => by
            rw [ltF_ahead] at p q
            rw [ahead_asymm p] at q; cases q)
          rw [new_eq, this, ← k3]
        have hsame2 : isV (newV v gone add) = true → y = newV v gone add := fun hy => by
          have h1 := isV_ahead hy
          rw [new_eq] at h1 ⊢
          dsimp only at h1
          rw [k5.one h1 (hst.trans k4.symm), ← k3]
        refine ⟨?_, fun hy => by rw [← hsame hy]⟩
        rw [Bool.eq_iff_iff]
        exact ⟨fun h => by rw [hsame2 h]; exact h, fun h => by rw [← hsame h]; exact h⟩
theorem chg_same (v : Ver) (gone : List Int) (add : List File) (ha : add.length ≤ 1000) : chgVD v gone add = chgV v gone add ∧ chgED v gone add = chgE v gone add := by
  obtain ⟨h1, h2⟩ := chg_one v gone add ha
  cases h : okCD v gone add with
  | false =>
    rw [h] at h1
    rw [(chgD_no h).1, (chgD_no h).2, (chg_no h1).1, (chg_no h1).2]
    exact ⟨rfl, rfl⟩
  | true =>
    rw [h] at h1
    rw [(chgD_yes h (h2 h)).1, (chgD_yes h (h2 h)).2, (chg_yes h1).1, (chg_yes h1).2]
    exact ⟨rfl, rfl⟩
theorem chg_isV {v : Ver} {gone : List Int} {add : List File} (h : chgE v gone add = 0) : isV (chgV v gone add) = true := by
  unfold chgE at h
  unfold chgV
  cases e : chgOk v gone add with
  | false => rw [e] at h; cases h
  | true =>
    rw [if_pos rfl]
    unfold chgOk at e
    simp only [Bool.and_eq_true] at e
    exact e.2
end Go.Lv
set_option maxRecDepth 8000
set_option linter.unusedVariables false
namespace Go.Proofs.Ytohhhaeemephnaa
open Go.Vk
attribute [local irreducible] HT HX RegS RegA RegM OpP OpC AltT
attribute [local irreducible] Lv.isV Lv.notF Lv.gonD Lv.addD Lv.allD Lv.okCD Lv.chgVD Lv.chgED Lv.ixA Lv.insA Lv.ahead
set_option maxHeartbeats 8000000 in
theorem rl11Change (v : Lv.Ver) (gone : List Int) (add : List Lv.File) (hg : gone.length ≤ 50) (ha : add.length ≤ 1000) (hok : ∀ i, i < add.length → Lv.Okf (add.getD i default)) : CFn Try.prog 25 [TAgg (Lv.cVer v), TSl 1 Lv.cZ gone, TSl 5 Lv.cFile add] (TTup [TAgg (Lv.cVer (Lv.chgVD v gone add)), okI .i64 (Lv.chgED v gone add)]) := by
  have c0 := rl11Is v
  cases hN : Lv.isV v with
  | false =>
    rw [hN] at c0
    obtain ⟨e1, e2⟩ := Lv.chgD_no (Lv.okCD_0 (gone := gone) (add := add) hN)
    rw [e1, e2]
    refine CallsC.of Try.call25 Try.func25 rfl Try.ntmps25 rfl fun w0 G0 S0 hs ho => ?_
    refine run ?_
    exact ⟨fun _ _ => rfl, fun _ _ => rfl⟩
  | true =>
    rw [hN] at c0
    have hV := Lv.isV_head hN
    have c6 := rlAhead
    have pl2 := Plan.mk' 26 [(1,3,[]),(2,2,[1]),(3,3,[]),(4,3,[]),(6,3,[]),(7,3,[]),(8,3,[]),(9,3,[]),(10,3,[]),(0,0,[1]),(5,0,[1]),(11,0,[1]),(12,3,[])]
    have mu := Mut.mk' [114]
    have pl1 := Plan.mk' 3 [(0,3,[]),(1,3,[]),(2,3,[]),(3,3,[]),(4,3,[]),(5,3,[]),(6,3,[]),(7,0,[]),(8,0,[])]
    refine CallsC.of Try.call25 Try.func25 rfl Try.ntmps25 rfl fun w0 G0 S0 hs ho => ?_
    refine run ?_
    intro v1 v2 _
    refine HT.loopX (σ := Nat × List Lv.File) [1, 2, 6, 8] (fun t => [(9, okI .i64 (t.1 : Int))]) (fun t => [ownP (blk v1) 24 [okI .i64 0, Is (.slice none 0 0)], ownP (blk v2) 24 [okI .i64 v.next, TSl 5 Lv.cFile t.2]]) (fun t => (t.1 ≤ gone.length ∧ t.2.length ≤ v.files.length) ∧ Lv.gonD t.2 (gone.drop t.1) = Lv.gonD v.files gone) (fun t => gone.length - t.1) (0, v.files) ⟨⟨Nat.zero_le _, Nat.le_refl _⟩, rfl⟩ (run trivial) (run trivial) ?_
    rintro ⟨i, cur⟩ ⟨⟨hi, hc⟩, hg1⟩
    dsimp only at hi hc hg1 ⊢
    by_cases hlt : i < gone.length
    · refine run ?_
      intros
      refine HT.loopX (σ := Nat × List Lv.File × Value) [1, 2, 6, 8, 9] (fun t => [(10, TAnd (Is t.2.2) (TSl 5 Lv.cFile t.2.1)), (11, okI .i64 (t.1 : Int))]) (fun t => [ownP (blk v1) 24 [okI .i64 0, Is (.slice none 0 0)], ownP (blk v2) 24 [okI .i64 v.next, TSl 5 Lv.cFile cur], ownSl t.2.2 5 31]) (fun t => t.1 ≤ cur.length ∧ t.2.1 = (cur.take t.1).filter (Lv.notF (gone.getD i default)) ∧ t.2.1.length ≤ t.1) (fun t => cur.length - t.1) (0, [], .slice none 0 0) ⟨Nat.zero_le _, rfl, Nat.le_refl _⟩ (run trivial) (run trivial) ?_
      rintro ⟨k, acc, u⟩ ⟨hk, hac, hal⟩
      dsimp only at hk hac hal ⊢
      by_cases hlt2 : k < cur.length
      · refine run ?_
        refine ⟨fun u' _ h => ?_, fun _ h => ?_⟩
        · exact HX.roundX (k + 1, acc ++ [cur.getD k default], u') ⟨⟨by dsimp only; omega, Lv.filter_yes hlt2 hac (by rw [Lv.not_eq, decide_eq_false h]; rfl), by dsimp only; rw [List.length_append]; simp; omega⟩, by dsimp only; omega⟩ rfl (run trivial) (run trivial)
        · exact HX.roundX (k + 1, acc, u) ⟨⟨by dsimp only; omega, Lv.filter_no hlt2 hac (by rw [Lv.not_eq]; simp at h; simp [h]), by dsimp only; omega⟩, by dsimp only; omega⟩ rfl (run trivial) (run trivial)
      have hac' : acc = Lv.rmF cur (gone.getD i default) := Lv.filter_end hlt2 hac
      have hrl := Lv.rmF_len cur (gone.getD i default)
      rw [← hac'] at hrl
      have hno : (acc.length : Int) = (cur.length : Int) → Lv.okCD v gone add = false := fun h => Lv.okCD_none (Lv.allD_1 (by rw [← hg1]; exact Lv.gonD_no hlt (by rw [← hac']; omega)))
      refine run ?_
      refine ⟨fun _ h => ?_, fun _ h => ?_, fun _ h => ?_, fun _ h => ?_⟩
      · rw [(Lv.chgD_no (hno h)).1]; rfl
      · rw [(Lv.chgD_no (hno h)).1]; rfl
      · rw [(Lv.chgD_no (hno h)).2]
      · exact HX.roundX (i + 1, acc) ⟨⟨⟨by dsimp only; omega, by dsimp only; omega⟩, by dsimp only; rw [← hg1, Lv.gonD_go hlt (by rw [← hac']; omega), ← hac']⟩, by dsimp only; omega⟩ rfl (run trivial) (run trivial)
    have hge := Lv.gonD_end (l := cur) hlt
    rw [hge] at hg1
    have hA := Lv.allD_2 (v := v) (add := add) hg1.symm
    clear hge
    refine run ?_
    intro _
    refine HT.loopX (σ := Nat × List Lv.File × Int) [2, 6, 8] (fun t => [(12, okI .i64 (t.1 : Int))]) (fun t => [ownP (blk v1) 24 [okI .i64 0, Is (.slice none 0 0)], ownP (blk v2) 24 [okI .i64 t.2.2, TSl 5 Lv.cFile t.2.1]]) (fun t => (t.1 ≤ add.length ∧ t.2.1.length ≤ v.files.length + t.1 ∧ 1 ≤ t.2.2 ∧ t.2.2 ≤ 1099511627776) ∧ Lv.addD ⟨t.2.2, t.2.1⟩ (add.drop t.1) = Lv.addD ⟨v.next, cur⟩ add) (fun t => add.length - t.1) (0, cur, v.next) ⟨⟨Nat.zero_le _, by dsimp only; omega, by dsimp only; omega, by dsimp only; omega⟩, rfl⟩ (run trivial) (run trivial) ?_
    rintro ⟨k, bcc, nx⟩ ⟨⟨hk, hbl, hn1, hn2⟩, had⟩
    dsimp only at hk hbl hn1 hn2 had ⊢
    by_cases hlt3 : k < add.length
    · have ho := (hok k hlt3).1
      unfold Lv.okK at ho
      by_cases hnx : nx ≤ (add.getD k default).id
      · by_cases hbg : 1099511627776 ≤ (add.getD k default).id
        · have hz : Lv.okCD v gone add = false := Lv.okCD_none (by rw [hA, ← had]; exact Lv.addD_big hlt3 hnx hbg)
          rw [(Lv.chgD_no hz).1, (Lv.chgD_no hz).2]
          refine run ?_
          and_intros <;> intros <;> rfl
        refine run ?_
        intros
        refine HT.loopX (σ := Nat) [2, 6, 8, 12] (fun j => [(13, okI .i64 (j : Int))]) (fun j => [ownP (blk v1) 24 [okI .i64 0, Is (.slice none 0 0)], ownP (blk v2) 24 [okI .i64 ((add.getD k default).id + 1), TSl 5 Lv.cFile bcc]]) (fun j => j ≤ bcc.length ∧ ∀ m, m < j → Lv.ahead (bcc.getD m default) (add.getD k default) = true) (fun j => bcc.length - j) 0 ⟨Nat.zero_le _, by omega⟩ (run trivial) (run trivial) ?_
        rintro j ⟨hj, hja⟩
        by_cases hgo : j < bcc.length ∧ Lv.ahead (bcc.getD j default) (add.getD k default) = true
        · obtain ⟨hj1, hj2⟩ := hgo
          refine run ?_
          refine ⟨fun _ => ?_, fun _ _ _ _ h => ?_⟩
          · refine HX.roundX (j + 1) ⟨⟨by omega, fun m hm => ?_⟩, by omega⟩ rfl (run trivial) (run trivial)
            rcases (by omega : m < j ∨ m = j) with hm | rfl
            · exact hja m hm
            · exact hj2
          · exfalso
            rcases h with h | h
            · exact h (by omega)
            · rw [hj2] at h; cases h
        · have hix : Lv.ixA bcc (add.getD k default) = j := Lv.ixA_at hj hja (by
            by_cases q : j < bcc.length
            · exact .inr (Bool.eq_false_iff.2 fun e => hgo ⟨q, e⟩)
            · exact .inl q)
          have hins : Lv.insA bcc (add.getD k default) = bcc.take ((j : Int)).toNat ++ [add.getD k default] ++ bcc.drop ((j : Int)).toNat := by
            rw [Int.toNat_natCast, Lv.insA_eq, hix]
          have hil := Lv.insA_len bcc (add.getD k default)
          have hst := Lv.addD_up (x := ⟨nx, bcc⟩) hlt3 hnx hbg
          rw [hins] at hil hst
          refine run ?_
          refine ⟨fun h => (hgo ⟨by omega, h.2⟩).elim, fun _ _ _ _ _ => ?_⟩
          exact HX.roundX (k + 1, bcc.take ((j : Int)).toNat ++ [add.getD k default] ++ bcc.drop ((j : Int)).toNat, (add.getD k default).id + 1) ⟨⟨⟨by dsimp only; omega, by dsimp only; omega, by dsimp only; omega, by dsimp only; omega⟩, by dsimp only; rw [← hst, had]⟩, by dsimp only; omega⟩ rfl (To.mk' (is := [[0], [1]]) (PickX.any 0 rfl (PickX.own 1 rfl (TsSub.cons (Sub.refl _) (TsSub.cons (Sub.ownR (Sub.slT (by simp; rfl))) TsSub.nil)) PickX.nil)) rfl) (run trivial)
      · refine run ?_
        intros
        refine HT.loopX (σ := Nat) [2, 6, 8, 12] (fun j => [(13, okI .i64 (j : Int))]) (fun j => [ownP (blk v1) 24 [okI .i64 0, Is (.slice none 0 0)], ownP (blk v2) 24 [okI .i64 (nx), TSl 5 Lv.cFile bcc]]) (fun j => j ≤ bcc.length ∧ ∀ m, m < j → Lv.ahead (bcc.getD m default) (add.getD k default) = true) (fun j => bcc.length - j) 0 ⟨Nat.zero_le _, by omega⟩ (run trivial) (run trivial) ?_
        rintro j ⟨hj, hja⟩
        by_cases hgo : j < bcc.length ∧ Lv.ahead (bcc.getD j default) (add.getD k default) = true
        · obtain ⟨hj1, hj2⟩ := hgo
          refine run ?_
          refine ⟨fun _ => ?_, fun _ _ _ _ h => ?_⟩
          · refine HX.roundX (j + 1) ⟨⟨by omega, fun m hm => ?_⟩, by omega⟩ rfl (run trivial) (run trivial)
            rcases (by omega : m < j ∨ m = j) with hm | rfl
            · exact hja m hm
            · exact hj2
          · exfalso
            rcases h with h | h
            · exact h (by omega)
            · rw [hj2] at h; cases h
        · have hix : Lv.ixA bcc (add.getD k default) = j := Lv.ixA_at hj hja (by
            by_cases q : j < bcc.length
            · exact .inr (Bool.eq_false_iff.2 fun e => hgo ⟨q, e⟩)
            · exact .inl q)
          have hins : Lv.insA bcc (add.getD k default) = bcc.take ((j : Int)).toNat ++ [add.getD k default] ++ bcc.drop ((j : Int)).toNat := by
            rw [Int.toNat_natCast, Lv.insA_eq, hix]
          have hil := Lv.insA_len bcc (add.getD k default)
          have hst := Lv.addD_in (x := ⟨nx, bcc⟩) hlt3 hnx
          rw [hins] at hil hst
          refine run ?_
          refine ⟨fun h => (hgo ⟨by omega, h.2⟩).elim, fun _ _ _ _ _ => ?_⟩
          exact HX.roundX (k + 1, bcc.take ((j : Int)).toNat ++ [add.getD k default] ++ bcc.drop ((j : Int)).toNat, nx) ⟨⟨⟨by dsimp only; omega, by dsimp only; omega, by dsimp only; omega, by dsimp only; omega⟩, by dsimp only; rw [← hst, had]⟩, by dsimp only; omega⟩ rfl (To.mk' (is := [[0], [1]]) (PickX.any 0 rfl (PickX.own 1 rfl (TsSub.cons (Sub.refl _) (TsSub.cons (Sub.ownR (Sub.slT (by simp; rfl))) TsSub.nil)) PickX.nil)) rfl) (run trivial)
    have hae := Lv.addD_end (x := ⟨nx, bcc⟩) hlt3
    rw [hae] at had
    rw [← had] at hA
    have hxo := Lv.okCD_some hN hA
    have c5 := rl11Is ⟨nx, bcc⟩
    cases hF : Lv.isV ⟨nx, bcc⟩ with
    | true =>
      rw [hF] at hxo c5
      rw [(Lv.chgD_yes hxo hA).1, (Lv.chgD_yes hxo hA).2]
      exact run trivial
    | false =>
      rw [hF] at hxo c5
      rw [(Lv.chgD_no hxo).1, (Lv.chgD_no hxo).2]
      refine run ?_
      and_intros <;> intros <;> rfl
end Go.Proofs.Ytohhhaeemephnaa
