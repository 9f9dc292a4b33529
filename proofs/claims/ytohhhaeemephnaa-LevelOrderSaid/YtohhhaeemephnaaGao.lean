/-
  The contracts of the program's Over, as a row of its own, of slices.Reverse, and of Order.
  The contract of the program's Order; the law LevelOrder.
-/
import Derived.Test.YtohhhaeemephnaaGam
import Derived.Test.YtohhhaeemephnaaGaj
import Derived.Test.YtohhhaeemephnaaGan
set_option linter.unusedSimpArgs false
set_option linter.unusedVariables false
set_option maxRecDepth 8000
set_option linter.unusedVariables false
namespace Go.Proofs.Ytohhhaeemephnaa
open Go.Vk
attribute [local irreducible] HT HX RegS RegA RegM OpP OpC AltT
attribute [local irreducible] Lv.overL Lv.hitF
theorem lvOverR (v : Lv.Ver) (n : Int) (a b : List UInt8) (hl : v.files.length ≤ 100000) : CallsC Try.prog 30 [TAgg (Lv.cVer v), okI .i64 n, Is (str a), Is (str b)] [] (fun u => Is u) (fun u => [ownR u 31 5 Lv.cFile (Lv.overL v.files n a b)]) := by
  refine CallsC.of Try.call30 Try.func30 rfl Try.ntmps30 rfl fun w0 G0 S0 hs ho => ?_
  refine run ?_
  refine HT.loopX (σ := Nat × List Lv.File × Value) [1, 2, 3, 8, 13, 14] (fun t => [(9, Is t.2.2), (15, okI .i64 (t.1 : Int))]) (fun t => [ownR t.2.2 31 5 Lv.cFile t.2.1]) (fun t => t.1 ≤ v.files.length ∧ t.2.1 = (v.files.take t.1).filter (Lv.hitF n a b) ∧ t.2.1.length ≤ t.1) (fun t => v.files.length - t.1) (0, [], .slice none 0 0) ⟨Nat.zero_le _, rfl, Nat.le_refl _⟩ (run trivial) (run trivial) ?_
  rintro ⟨i, acc, u⟩ ⟨hi, ha, hal⟩
  dsimp only at hi ha hal ⊢
  by_cases hlt : i < v.files.length
  · refine run ?_
    refine ⟨fun _ u' _ h => ?_, fun _ _ h => ?_⟩
    · exact HX.roundX (i + 1, acc ++ [v.files.getD i default], u') ⟨⟨by dsimp only; omega, Lv.filter_yes hlt ha (hit_yes h), by dsimp only; rw [List.length_append]; simp; omega⟩, by dsimp only; omega⟩ rfl (run trivial) (run trivial)
    · exact HX.roundX (i + 1, acc, u) ⟨⟨by dsimp only; omega, Lv.filter_no hlt ha (hit_no h), by dsimp only; omega⟩, by dsimp only; omega⟩ rfl (run trivial) (run trivial)
  · have hf := Lv.filter_end hlt ha
    have hf' : acc = Lv.overL v.files n a b := hf.trans (by unfold Lv.overL; rfl)
    rw [← hf']
    exact run trivial
/-- How far a row is turned. -/
def revP (l m : List Lv.File) (i : Nat) : Prop := m.length = l.length ∧ ∀ k, k < l.length → m.getD k default = if k < i ∨ l.length < k + i + 1 then l.getD (l.length - 1 - k) default else l.getD k default
theorem revP_0 (l : List Lv.File) : revP l l 0 := ⟨rfl, fun k hk => by rw [if_neg (by omega)]⟩
theorem getD_set {α : Type} [Inhabited α] {l : List α} {i k : Nat} {a : α} (h : i < l.length) : (l.set i a).getD k default = if i = k then a else l.getD k default := by
  rw [List.getD_eq_getElem?_getD, List.getElem?_set]
  by_cases e : i = k
  · rw [if_pos e, if_pos h, if_pos e]; rfl
  · rw [if_neg e, if_neg e, ← List.getD_eq_getElem?_getD]
theorem revP_step {l m : List Lv.File} {i j : Nat} (h : revP l m i) (hij : i < j) (hj : j + i + 1 = l.length) : revP l ((m.set i (m.getD j default)).set j (m.getD i default)) (i + 1) := by
  obtain ⟨h1, h2⟩ := h
  refine ⟨by simp [h1], fun k hk => ?_⟩
  rw [getD_set (by rw [List.length_set]; omega)]
  by_cases e : j = k
  · subst e
    rw [if_pos rfl, if_pos (by omega), h2 i (by omega), if_neg (by omega), show l.length - 1 - j = i by omega]
  · rw [if_neg e, getD_set (by omega)]
    by_cases e2 : i = k
    · subst e2
      rw [if_pos rfl, if_pos (by omega), h2 j (by omega), if_neg (by omega), show l.length - 1 - i = j by omega]
    · rw [if_neg e2, h2 k hk]
      by_cases e3 : k < i ∨ l.length < k + i + 1
      · rw [if_pos e3, if_pos (by omega)]
      · rw [if_neg e3, if_neg (by omega)]
theorem revP_end {l m : List Lv.File} {i : Nat} (h : revP l m i) (hi : l.length ≤ 2 * i + 1) : m = l.reverse := by
  obtain ⟨h1, h2⟩ := h
  refine files_ext (by simp [h1]) fun k hk => ?_
  rw [h1] at hk
  have h3 : l.reverse.getD k default = l.getD (l.length - 1 - k) default := by
    rw [List.getD_eq_getElem?_getD, List.getElem?_reverse hk, ← List.getD_eq_getElem?_getD]
  rw [h3, h2 k hk]
  split
  · rfl
  · rw [show l.length - 1 - k = k by omega]
theorem lvReverse (u : Value) (l : List Lv.File) (hl : l.length ≤ 100000) : CallsC Try.prog 31 [Is u] [ownR u 31 5 Lv.cFile l] (fun _ => TTup []) (fun _ => [ownR u 31 5 Lv.cFile l.reverse]) := by
  have pl := Plan.mk' 3 [(0,3,[]),(1,3,[]),(2,3,[]),(3,3,[]),(4,3,[]),(5,3,[]),(8,3,[]),(9,3,[]),(6,3,[]),(10,3,[]),(7,1,[]),(11,1,[]),(12,3,[]),(13,0,[]),(14,3,[]),(15,0,[])]
  refine CallsC.of Try.call31 Try.func31 rfl Try.ntmps31 rfl fun w0 G0 S0 hs ho => ?_
  refine HT.openR 0 rfl (fun h1 h2 => ?_) (fun g c h1 => ?_)
  · subst h1 h2
    refine run ?_
    refine HT.loopX (σ := Unit) [0] (fun _ => [(2, okI .i64 0), (3, okI .i64 (-1))]) (fun _ => []) (fun _ => True) (fun _ => 0) () trivial (run trivial) (run trivial) ?_
    intro _ _
    exact run trivial
  · subst h1
    refine run ?_
    refine HT.loopX (σ := Nat × List Lv.File) [0] (fun t => [(2, okI .i64 (t.1 : Int)), (3, okI .i64 ((l.length : Int) - 1 - (t.1 : Int)))]) (fun t => [ownA g c 31 5 Lv.cFile t.2]) (fun t => 2 * t.1 ≤ l.length + 1 ∧ revP l t.2 t.1) (fun t => l.length - t.1) (0, l) ⟨by dsimp only; omega, revP_0 l⟩ (run trivial) (run trivial) ?_
    rintro ⟨i, m⟩ ⟨hi, hr⟩
    dsimp only at hi hr ⊢
    have hml := hr.1
    by_cases hlt : (i : Int) < (l.length : Int) - 1 - (i : Int)
    · have hj : (((l.length : Int) - 1 - (i : Int)).toNat) = l.length - 1 - i := by omega
      have hst : (m.set i (m.getD ((l.length : Int) - 1 - (i : Int)).toNat default)).length = l.length := by rw [List.length_set, hml]
      refine run ?_
      intro _
      rw [hj]
      exact HX.roundX (i + 1, (m.set i (m.getD (l.length - 1 - i) default)).set (l.length - 1 - i) (m.getD i default)) ⟨⟨by dsimp only; omega, revP_step hr (by omega) (by omega)⟩, by dsimp only; omega⟩ rfl (run trivial) (run trivial)
    · have e := revP_end hr (by omega)
      subst e
      exact run trivial
end Go.Proofs.Ytohhhaeemephnaa
set_option maxRecDepth 8000
set_option linter.unusedVariables false
namespace Go.Proofs.Ytohhhaeemephnaa
open Go.Vk
attribute [local irreducible] HT HX RegS RegA RegM OpP OpC AltT
attribute [local irreducible] Lv.overL Lv.hitF Lv.ordUp
theorem ordUp_0 (l : List Lv.File) (k : List UInt8) : Lv.ordUp l k 0 = (Lv.overL l 0 k k).reverse := by unfold Lv.ordUp; rfl
theorem ordUp_s (l : List Lv.File) (k : List UInt8) (n : Nat) : Lv.ordUp l k (n + 1) = Lv.ordUp l k n ++ Lv.overL l ((n : Int) + 1) k k := by rw [Lv.ordUp]
theorem lvOrder (v : Lv.Ver) (k : List UInt8) (hl : v.files.length ≤ 10000) : CFn Try.prog 15 [TAgg (Lv.cVer v), Is (str k)] (TSl 5 Lv.cFile (Lv.ordUp v.files k 4)) := by
  refine CallsC.freeze (e := 31) ?_
  have c1 := lvOverR v 0 k k (by omega)
  have hol := Lv.over_len v.files 0 k k
  have c2 := fun u => lvReverse u (Lv.overL v.files 0 k k) (by omega)
  have st := Stop.mk' 3
  refine CallsC.of Try.call15 Try.func15 rfl Try.ntmps15 rfl fun w0 G0 S0 hs ho => ?_
  refine run ?_
  intro u0
  refine HTs.mk ?_
  clear st c1
  have c1 := lvOver v
  rw [← ordUp_0]
  refine run ?_
  refine HT.loopX (σ := Nat × Value) [1, 2, 4] (fun t => [(5, Is t.2), (6, okI .i64 ((t.1 : Int) + 1))]) (fun t => [ownR t.2 31 5 Lv.cFile (Lv.ordUp v.files k t.1)]) (fun t => t.1 ≤ 4) (fun t => 4 - t.1) (0, u0) (by dsimp only; omega) (run trivial) (run trivial) ?_
  rintro ⟨n, u⟩ hn
  dsimp only at hn ⊢
  have h1 := ordUp_s v.files k n
  have h2 := Lv.ord_len v.files k n
  have h3 := Lv.over_len v.files ((n : Int) + 1) k k
  have h4 : (n + 1) * v.files.length ≤ 5 * v.files.length := Nat.mul_le_mul_right _ (by omega)
  by_cases hlt : n < 4
  · refine run ?_
    intro u' _
    rw [← h1]
    exact HX.roundX (n + 1, u') ⟨by dsimp only; omega, by dsimp only; omega⟩ rfl (run trivial) (run trivial)
  · have e : n = 4 := by omega
    subst e
    exact run trivial
def hasN (l : List Lv.File) (k : List UInt8) (i : Nat) : Int := (((l.take i).filter (Lv.hasK k)).length : Int)
theorem hasN_yes {l : List Lv.File} {k : List UInt8} {i : Nat} (h : i < l.length) (hk : Lv.hasK k (l.getD i default) = true) : hasN l k (i + 1) = hasN l k i + 1 := by
  unfold hasN
  rw [Lv.filter_snoc h, if_pos hk, List.length_append]
  rfl
theorem hasN_no {l : List Lv.File} {k : List UInt8} {i : Nat} (h : i < l.length) (hk : Lv.hasK k (l.getD i default) = false) : hasN l k (i + 1) = hasN l k i := by
  unfold hasN
  rw [Lv.filter_snoc h, if_neg (by rw [hk]; simp), List.append_nil]
theorem hasN_le (l : List Lv.File) (k : List UInt8) (i : Nat) : 0 ≤ hasN l k i ∧ hasN l k i ≤ (i : Int) := by
  unfold hasN
  have := List.length_filter_le (Lv.hasK k) (l.take i)
  rw [List.length_take] at this
  omega
theorem hasN_all (l : List Lv.File) (k : List UInt8) : hasN l k l.length = ((l.filter (Lv.hasK k)).length : Int) := by unfold hasN; rw [List.take_length]
theorem hasN_0 (l : List Lv.File) (k : List UInt8) : hasN l k 0 = 0 := rfl
theorem hasK_yes {k : List UInt8} {f : Lv.File} (h : (sless f.first k = true ∨ (f.first == k) = true) ∧ (sless k f.last = true ∨ (k == f.last) = true)) : Lv.hasK k f = true := by
  unfold Lv.hasK
  rw [← sle_eq, ← sle_eq]
  simp only [Bool.and_eq_true, Bool.or_eq_true]
  exact h
theorem hasK_no {k : List UInt8} {f : Lv.File} (h : (sless f.first k = false ∧ (f.first == k) = false) ∨ (sless k f.last = false ∧ (k == f.last) = false)) : Lv.hasK k f = false := by
  unfold Lv.hasK
  rw [← sle_eq, ← sle_eq]
  simp only [Bool.and_eq_false_iff, Bool.or_eq_false_iff]
  exact h
attribute [local irreducible] Lv.isV lvHeavyB hasN
set_option maxHeartbeats 4000000 in
theorem lwOrder11 (v : Lv.Ver) (k : List UInt8) (h : Lv.Okv v) : CFn Try.prog 4 [TAgg (Lv.cVer v), Is (str k)] (Is (.bool true)) := by
  have c0 := lvHeavy v.files (lv_okf h)
  have c5 := rl11Is v
  have c8 := lvKnown
  cases hb : lvHeavyB v.files with
  | true =>
    rw [hb] at c0
    refine CallsC.of Try.call4 Try.func4 rfl Try.ntmps4 rfl fun w0 G0 S0 hs ho => ?_
    exact run trivial
  | false =>
  rw [hb] at c0
  cases hN : Lv.isV v with
  | false =>
    rw [hN] at c5
    refine CallsC.of Try.call4 Try.func4 rfl Try.ntmps4 rfl fun w0 G0 S0 hs ho => ?_
    exact run trivial
  | true =>
  rw [hN] at c5
  by_cases hk : (200 : Int) < (k.length : Int)
  · refine CallsC.of Try.call4 Try.func4 rfl Try.ntmps4 rfl fun w0 G0 S0 hs ho => ?_
    exact run trivial
  have hV := Lv.isV_head hN
  have c1 := lvOrder v k (by omega)
  have hmem := fun f hf => Lv.ord_mem (l := v.files) (k := k) (f := f) (n := 4) hf
  have hpair := fun i hi h0 => Lv.S_at (Lv.ord_pair hN k 4) (i := i) hi h0
  have hcount := Lv.ord_count k v.files (fun f hf => (Lv.oneF_of (Lv.isV_one hN hf)).2.1)
  have hlen := Lv.ord_len v.files k 4
  have hlv : ∀ f ∈ Lv.ordUp v.files k 4, 0 ≤ f.level := fun f hf => (Lv.oneF_of (Lv.isV_one hN (hmem f hf).1)).2.1.1
  clear h
  generalize Lv.ordUp v.files k 4 = o at *
  refine CallsC.of Try.call4 Try.func4 rfl Try.ntmps4 rfl fun w0 G0 S0 hs ho => ?_
  refine run ?_
  intro _
  refine HT.loopX (σ := Nat) [1, 2, 5] (fun i => [(6, okI .i64 (i : Int))]) (fun t => []) (fun i => i ≤ o.length) (fun i => o.length - i) 0 (Nat.zero_le _) (run trivial) (run trivial) ?_
  intro i hi
  by_cases hlt : i < o.length
  · obtain ⟨_, _, m1, m2⟩ := hmem _ (Lv.mem_at hlt)
    have m3 := fun h0 => hpair i hlt h0
    have e1 := sgt_eq k (o.getD i default).last
    have e2 : ((i : Int) - 1).toNat = i - 1 := by omega
    unfold Go.Vk.sle at m1 m2
    have m4 := hlv _ (Lv.mem_at hlt)
    have e3 := sle_eq k (o.getD i default).last
    unfold Go.Vk.sle at e3
    unfold Lv.S at m3
    refine run ?_
    rw [e2]
    refine ⟨fun _ h4 => ?_, fun _ _ h4 => ?_, fun _ _ _ => HX.roundX (i + 1) ⟨by omega, by omega⟩ rfl (run trivial) (run trivial)⟩
    · exfalso
      rw [m1] at e3
      rcases h4 with h4 | ⟨h4, h5⟩
      · rw [h4] at m2; cases m2
      · rw [h4, h5] at e3; cases e3
    · exfalso
      have := m3 (by omega)
      omega
  · refine run ?_
    intro _
    refine HT.loopX (σ := Nat) [1, 2, 4, 5] (fun i => [(7, okI .i64 (hasN v.files k i)), (8, okI .i64 (i : Int))]) (fun t => []) (fun i => i ≤ v.files.length) (fun i => v.files.length - i) 0 (Nat.zero_le _) (run trivial) (by rw [hasN_0]; exact run trivial) ?_
    intro j hj
    have n1 := hasN_le v.files k j
    by_cases hjt : j < v.files.length
    · refine run ?_
      refine ⟨fun _ h4 => ?_, fun _ h4 => ?_⟩
      · exact HX.roundX (j + 1) ⟨by omega, by omega⟩ rfl (run trivial) (by rw [hasN_yes hjt (hasK_yes h4)]; exact run trivial)
      · exact HX.roundX (j + 1) ⟨by omega, by omega⟩ rfl (run trivial) (by rw [hasN_no hjt (hasK_no h4)]; exact run trivial)
    · have e : j = v.files.length := by omega
      subst e
      rw [hasN_all, ← hcount]
      exact run trivial
end Go.Proofs.Ytohhhaeemephnaa
