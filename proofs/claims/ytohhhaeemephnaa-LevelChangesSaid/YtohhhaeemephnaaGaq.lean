/-
  A file that is taken away and laid in again. Nothing here speaks of a program; no conditions.
  The laws LevelChanges and LevelGone.
  The law LevelGone.
-/
import Derived.Test.YtohhhaeemephnaaGap
import Derived.Test.YtohhhaeemephnaaGan
set_option linter.unusedSimpArgs false
set_option linter.unusedVariables false
set_option linter.unusedVariables false
namespace Go.Lv
open Go.Vk
open Go.Proofs.Ytohhhaeemephnaa (ltF)
theorem R.link {a b : File} (ha : goodF a) (h : R a b) : linkF a b = true := by
  have h1 := h.ahead ha
  unfold linkF
  rw [h1, Bool.true_and]
  unfold R at h
  rcases h with h | ⟨h2, h3, h4⟩
  · rw [decide_eq_false (p := a.level = b.level) (by omega)]; simp
  · by_cases z : a.level = 0
    · rw [decide_eq_false (p := 0 < b.level) (by omega)]; simp
    · have := h4 z
      unfold sle
      rw [this]; simp
theorem isV_ids {v : Ver} (h : isV v = true) : v.files.Pairwise fun a b => a.id ≠ b.id := by
  rw [List.pairwise_iff_getElem]
  intro i j hi hj hij e
  have hs := isV_at h hj
  rw [step_eq] at hs
  simp only [Bool.and_eq_true, Bool.not_eq_true'] at hs
  have := seen_le (l := v.files) (k := i) (n := (v.files.getD j default).id) hij (Nat.le_of_lt hj) (by
    rw [List.getD_eq_getElem?_getD, List.getElem?_eq_getElem hi, Option.getD_some, List.getD_eq_getElem?_getD, List.getElem?_eq_getElem hj, Option.getD_some]; exact e)
  rw [hs.1.2] at this; cases this
theorem isV_of {n : Int} {l : List File} (h1 : 1 ≤ n) (h2 : n ≤ 1099511627776) (h3 : l.length ≤ 1024) (h4 : ∀ f ∈ l, oneF f n = true) (h5 : l.Pairwise fun a b => a.id ≠ b.id) (h6 : l.Pairwise R) : isV ⟨n, l⟩ = true := by
  refine isV_yes (v := ⟨n, l⟩) (i := l.length) ⟨⟨by dsimp only; omega, by dsimp only; omega⟩, by dsimp only; omega⟩ (by dsimp only; omega) (Nat.le_refl _) ?_
  dsimp only
  unfold uptoV
  rw [List.all_eq_true]
  intro i hi
  rw [List.mem_range] at hi
  rw [step_eq, h4 _ (getD_mem hi), Bool.true_and, Bool.and_eq_true]
  constructor
  · rw [Bool.not_eq_true']
    unfold seenV
    rw [List.any_eq_false]
    intro g hg
    obtain ⟨j, hj, e⟩ := List.getElem_of_mem hg
    rw [List.length_take] at hj
    rw [List.getElem_take] at e
    have := List.pairwise_iff_getElem.1 h5 j i (by omega) hi (by omega)
    rw [List.getD_eq_getElem?_getD, List.getElem?_eq_getElem hi, Option.getD_some, ← e]
    simpa using this
  · by_cases z : i = 0
    · rw [decide_eq_true z]; rfl
    · rw [Bool.or_eq_true]
      right
      have := List.pairwise_iff_getElem.1 h6 (i - 1) i (by omega) hi (by omega)
      rw [List.getD_eq_getElem?_getD, List.getElem?_eq_getElem (show i - 1 < l.length by omega), Option.getD_some, List.getD_eq_getElem?_getD, List.getElem?_eq_getElem hi, Option.getD_some]
      exact this.link (good_of (h4 _ (List.getElem_mem _)))
theorem ltF_asymm (a b : File) (p : ltF a b = true) (q : ltF b a = true) : False := by
  rw [ltF_ahead] at p q
  rw [ahead_asymm p] at q; cases q
theorem isV_lt {v : Ver} (h : isV v = true) : v.files.Pairwise fun a b => ltF a b = true := (isV_ahead h).imp fun h => by rw [ltF_ahead]; exact h
theorem inZ_one (n g : Int) : inZ n [g] = decide (n = g) := by unfold inZ; simp
theorem kept_nil (l : List File) : l.filter (keptF []) = l := List.filter_eq_self.2 fun f _ => rfl
/-- What is left without one file. -/
def lessV (v : Ver) (i : Nat) : Ver := ⟨v.next, v.files.filter (keptF [(v.files.getD i default).id])⟩
theorem gone_one {v : Ver} (h : isV v = true) {i : Nat} (hi : i < v.files.length) :
    (chgV v [(v.files.getD i default).id] [] = lessV v i ∧ chgE v [(v.files.getD i default).id] [] = 0) ∧ (lessV v i).files.length + 1 = v.files.length ∧ chgV (lessV v i) [] [v.files.getD i default] = v ∧ chgE (lessV v i) [] [v.files.getD i default] = 0 := by
  have hV := isV_head h
  have ids := isV_ids h
  have hR := isV_pair h
  have hmem : v.files.getD i default ∈ v.files := getD_mem hi
  have hone := isV_one h hmem
  have hid := (oneF_of hone).1
  have hcut : v.files = v.files.take i ++ v.files.getD i default :: v.files.drop (i + 1) := by
    rw [List.getD_eq_getElem?_getD, List.getElem?_eq_getElem hi, Option.getD_some, ← List.drop_eq_getElem_cons hi, List.take_append_drop]
  have hall : ∀ f ∈ v.files, oneF f v.next = true := fun f hf => isV_one h hf
  unfold lessV
  generalize v.files.getD i default = f at *
  generalize v.files.take i = A at *
  generalize v.files.drop (i + 1) = B at *
  obtain ⟨nx, l⟩ := v
  dsimp only at *
  subst hcut
  have hA : ∀ g ∈ A, keptF [f.id] g = true := fun g hg => by
    rw [kept_eq, inZ_one, Bool.not_eq_true', decide_eq_false_iff_not]
    exact (List.pairwise_append.1 ids).2.2 g hg f (List.mem_cons_self ..)
  have hB : ∀ g ∈ B, keptF [f.id] g = true := fun g hg => by
    rw [kept_eq, inZ_one, Bool.not_eq_true', decide_eq_false_iff_not]
    exact fun e => (List.pairwise_cons.1 (List.pairwise_append.1 ids).2.1).1 g hg e.symm
  have hf : keptF [f.id] f = false := by rw [kept_eq, inZ_one, decide_eq_true rfl]; rfl
  have hfil : (A ++ f :: B).filter (keptF [f.id]) = A ++ B := by
    rw [List.filter_append, List.filter_cons_of_neg (by rw [hf]; simp), List.filter_eq_self.2 hA, List.filter_eq_self.2 hB]
  rw [hfil]
  have hsub : (A ++ B).Sublist (A ++ f :: B) := (List.Sublist.refl A).append (List.sublist_cons_self f B)
  have hln : (A ++ f :: B).length = (A ++ B).length + 1 := by simp only [List.length_append, List.length_cons]; omega
  have hW : isV ⟨nx, A ++ B⟩ = true := isV_of hV.1 hV.2.1 (by omega) (fun g hg => hall g (hsub.mem hg)) (ids.sublist hsub) (hR.sublist hsub)
  have hlt1 := isV_lt hW
  have hlt2 := isV_lt h
  dsimp only at hlt1 hlt2
  have hst1 : Srt.stabF ltF (A ++ B) = A ++ B := Srt.stab_strict (Srt.fuel_le (by omega)) (List.Perm.refl _) hlt1 ltF_asymm
  have hst2 : Srt.stabF ltF (A ++ B ++ [f]) = A ++ f :: B := Srt.stab_strict (Srt.fuel_le (by rw [List.length_append]; simp only [List.length_cons, List.length_nil]; omega)) (by
    refine List.perm_middle.trans ?_
    exact (List.perm_append_singleton f (A ++ B)).symm) hlt2 ltF_asymm
  have n1 : newV ⟨nx, A ++ f :: B⟩ [f.id] [] = ⟨nx, A ++ B⟩ := by
    rw [new_eq, List.append_nil]
    dsimp only
    rw [hfil, hst1]; rfl
  have n2 : newV ⟨nx, A ++ B⟩ [] [f] = ⟨nx, A ++ f :: B⟩ := by
    rw [new_eq]
    dsimp only
    rw [kept_nil, hst2, List.foldl_cons, List.foldl_nil, next_eq, if_neg (by omega)]
  have hhas : hasF (A ++ f :: B) f.id = true := by
    unfold hasF
    rw [List.any_eq_true]
    exact ⟨f, hmem, decide_eq_true rfl⟩
  have b1 : badG (A ++ f :: B) [f.id] = false := by
    rw [badG_cons, hhas]; unfold badG; simp
  have b2 : badG (A ++ B) [] = false := by unfold badG; simp
  have g2 : [f].any bigF = false := by
    rw [List.any_cons, List.any_nil, big_eq, decide_eq_false (by omega)]; rfl
  have o1 : chgOk ⟨nx, A ++ f :: B⟩ [f.id] [] = true := by
    unfold chgOk
    rw [n1, h, hW]
    dsimp only
    rw [b1]; rfl
  have o2 : chgOk ⟨nx, A ++ B⟩ [] [f] = true := by
    unfold chgOk
    rw [n2, h, hW]
    dsimp only
    rw [b2, g2]; rfl
  rw [(chg_yes o1).1, (chg_yes o1).2, (chg_yes o2).1, (chg_yes o2).2, n1, n2]
  exact ⟨⟨rfl, rfl⟩, hln.symm, rfl, rfl⟩
end Go.Lv
set_option linter.unusedVariables false
namespace Go.Lv
theorem chg_len (v : Ver) (gone : List Int) (add : List File) : (chgV v gone add).files.length ≤ 1024 := by
  unfold chgV
  split
  · rename_i h
    unfold chgOk at h
    simp only [Bool.and_eq_true] at h
    exact (isV_head h.2).2.2.1
  · decide
theorem chg_err (v : Ver) (gone : List Int) (add : List File) : chgE v gone add = 0 ∨ chgE v gone add = 1 := by
  unfold chgE
  split
  · exact .inl rfl
  · exact .inr rfl
end Go.Lv
set_option maxRecDepth 8000
set_option linter.unusedVariables false
namespace Go.Proofs.Ytohhhaeemephnaa
open Go.Vk
attribute [local irreducible] HT HX RegS RegA RegM OpP OpC AltT
theorem heavy_len {l : List Lv.File} (h : lvHeavyB l = false) : l.length ≤ 101 := by
  by_cases k : l.length ≤ 101
  · exact k
  · have := lvHeavy_yes (l := l) (i := 101) (by omega) (.inr (by omega))
    rw [h] at this; cases this
theorem lv_okl {l : List Lv.File} (h : l.length ≤ 140737488351232 ∧ ∀ f ∈ l, Lv.Okf f) : ∀ i, i < l.length → Lv.Okf (l.getD i default) := fun i hi => h.2 _ (Lv.mem_at hi)
attribute [local irreducible] Lv.isV lvHeavyB Lv.chgV Lv.chgE Lv.chgVD Lv.chgED Lv.zV
set_option maxHeartbeats 4000000 in
theorem lwChanges11 (v : Lv.Ver) (gone : List Int) (add : List Lv.File) (h : Lv.Okv v) (hg : gone.length ≤ 140737488351232) (ha : add.length ≤ 140737488351232 ∧ ∀ f ∈ add, Lv.Okf f) : CFn Try.prog 8 [TAgg (Lv.cVer v), TSl 1 Lv.cZ gone, TSl 5 Lv.cFile add] (Is (.bool true)) := by
  have c0 := lvHeavy v.files (lv_okf h)
  have hok := lv_okl ha
  have c0' := lvHeavy add hok
  have c8 := lvKnown
  have hvl := h.1
  have hal := ha.1
  cases hb : lvHeavyB v.files with
  | true =>
    rw [hb] at c0
    refine CallsC.of Try.call8 Try.func8 rfl Try.ntmps8 rfl fun w0 G0 S0 hs ho => ?_
    exact run trivial
  | false =>
  rw [hb] at c0
  cases hb2 : lvHeavyB add with
  | true =>
    rw [hb2] at c0'
    refine CallsC.of Try.call8 Try.func8 rfl Try.ntmps8 rfl fun w0 G0 S0 hs ho => ?_
    exact run trivial
  | false =>
  rw [hb2] at c0'
  by_cases hm : (50 : Int) < (gone.length : Int)
  · refine CallsC.of Try.call8 Try.func8 rfl Try.ntmps8 rfl fun w0 G0 S0 hs ho => ?_
    exact run trivial
  have hl1 := heavy_len hb
  have hl2 := heavy_len hb2
  have c1 := lvChange v gone add (by omega) (by omega) hok
  have c2 := rl11Change v gone add (by omega) (by omega) hok
  have hs := Lv.chg_same v gone add (by omega)
  rw [hs.1, hs.2] at c2
  have hcl := Lv.chg_len v gone add
  have hce := Lv.chg_err v gone add
  have hci := Lv.chg_isV (v := v) (gone := gone) (add := add)
  have c3 := lvSame (Lv.chgV v gone add) (Lv.chgV v gone add) (by omega)
  rw [decide_eq_true rfl] at c3
  have c4 := lvIs (Lv.chgV v gone add)
  have pl := Plan.mk' 3 [(0,3,[]),(1,3,[]),(2,3,[]),(3,3,[]),(4,3,[]),(5,3,[]),(6,3,[]),(7,3,[]),(8,3,[]),(9,3,[]),(10,3,[]),(13,3,[]),(11,0,[]),(12,0,[])]
  clear hs
  generalize Lv.chgV v gone add = x at *
  generalize Lv.chgE v gone add = y at *
  rcases hce with rfl | rfl
  · rw [hci rfl] at c4
    refine CallsC.of Try.call8 Try.func8 rfl Try.ntmps8 rfl fun w0 G0 S0 hs ho => ?_
    exact run trivial
  · refine CallsC.of Try.call8 Try.func8 rfl Try.ntmps8 rfl fun w0 G0 S0 hs ho => ?_
    exact run trivial
end Go.Proofs.Ytohhhaeemephnaa
set_option maxRecDepth 8000
set_option linter.unusedVariables false
namespace Go.Proofs.Ytohhhaeemephnaa
open Go.Vk
attribute [local irreducible] HT HX RegS RegA RegM OpP OpC AltT
attribute [local irreducible] Lv.isV lvHeavyB Lv.chgV Lv.chgE Lv.lessV Lv.zV
set_option maxHeartbeats 4000000 in
theorem lwGone11 (v : Lv.Ver) (i : Int) (h : Lv.Okv v) : CFn Try.prog 9 [TAgg (Lv.cVer v), okI .i64 i] (Is (.bool true)) := by
  have c0 := lvHeavy v.files (lv_okf h)
  have c5 := rl11Is v
  have c8 := lvKnown
  have hvl := h.1
  cases hb : lvHeavyB v.files with
  | true =>
    rw [hb] at c0
    refine CallsC.of Try.call9 Try.func9 rfl Try.ntmps9 rfl fun w0 G0 S0 hs ho => ?_
    exact run trivial
  | false =>
  rw [hb] at c0
  cases hN : Lv.isV v with
  | false =>
    rw [hN] at c5
    refine CallsC.of Try.call9 Try.func9 rfl Try.ntmps9 rfl fun w0 G0 S0 hs ho => ?_
    exact run trivial
  | true =>
  rw [hN] at c5
  by_cases hz : v.files.length = 0
  · refine CallsC.of Try.call9 Try.func9 rfl Try.ntmps9 rfl fun w0 G0 S0 hs ho => ?_
    exact run trivial
  have hj0 : 0 ≤ i % 65536 % (v.files.length : Int) := Int.emod_nonneg _ (by omega)
  have hj1 : i % 65536 % (v.files.length : Int) < (v.files.length : Int) := Int.emod_lt_of_pos _ (by omega)
  have hg := Lv.gone_one hN (i := (i % 65536 % (v.files.length : Int)).toNat) (by omega)
  obtain ⟨⟨g1, g2⟩, g3, g4, g5⟩ := hg
  have hfk : Lv.Okf (v.files.getD (i % 65536 % (v.files.length : Int)).toNat default) := lv_okf h _ (by omega)
  have c1 := lvChange v [(v.files.getD (i % 65536 % (v.files.length : Int)).toNat default).id] [] (by simp) (by simp) (by simp)
  have c2 := lvChange (Lv.lessV v (i % 65536 % (v.files.length : Int)).toNat) [] [v.files.getD (i % 65536 % (v.files.length : Int)).toNat default] (by simp) (by simp) (fun k hk => by
    have : k = 0 := by simp at hk; omega
    subst this; exact hfk)
  rw [g1, g2] at c1
  rw [g4, g5] at c2
  clear g1 g2 g4 g5
  have c3 := lvSame v v (by have := heavy_len hb; omega)
  rw [decide_eq_true rfl] at c3
  generalize Lv.lessV v (i % 65536 % (v.files.length : Int)).toNat = w at *
  have d1 : CFn Try.prog 24 [TAgg (Lv.cVer v), TSlX 1 (fun ts : List Ty => ts) [[okI .i64 (v.files.getD (i % 65536 % (v.files.length : Int)).toNat default).id]], Is (.slice none 0 0)] _ := CFn.sub c1 (by exact byQ)
  have d2 : CFn Try.prog 24 [TAgg (Lv.cVer w), Is (.slice none 0 0), TSlX 5 (fun ts : List Ty => ts) [Lv.cFile (v.files.getD (i % 65536 % (v.files.length : Int)).toNat default)]] _ := CFn.sub c2 (by exact byQ)
  clear c1 c2
  have pl := Plan.mk' 3 [(0,3,[]),(1,3,[]),(2,3,[]),(3,3,[]),(4,3,[]),(5,3,[]),(6,3,[]),(7,3,[]),(8,3,[]),(9,3,[]),(10,0,[]),(11,0,[])]
  refine CallsC.of Try.call9 Try.func9 rfl Try.ntmps9 rfl fun w0 G0 S0 hs ho => ?_
  refine run ?_
  intros
  have hw : (w.files.length : Int) = (v.files.length : Int) - 1 := by omega
  rw [decide_eq_true hw]
  simp
theorem opnInts11 : Opn Try.prog 48 (cL 1 Lv.cZ) (fun l => l.length ≤ 140737488351232) := by
  have h := Opn.slice (Opn.int Try.underlying3 (by kernel_rfl)) Try.underlying48 (by kernel_rfl) (by kernel_rfl)
  rw [show Try.prog.cellsOf 3 = 1 by kernel_rfl] at h
  have hb : Try.prog.bytesOf 3 = 8 := by kernel_rfl
  exact h.map id (fun l => by rw [show Try.prog.cellsOf 48 = 1 by kernel_rfl]; rfl) (fun _ => rfl) (fun l hl => by have := reach_le hl.1; rw [hb] at this; show l.length ≤ _; omega)
end Go.Proofs.Ytohhhaeemephnaa
