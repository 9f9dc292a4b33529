/-
  The contracts of Nodes, the program's and the document's.
  The contracts of Same of filters, the program's and the document's.
  How many bytes the first message has: the plain function, and the contracts of the program's and the document's Frame.
  The contracts of msg's small functions, and of all that the encoding of an unbind reaches.
  Requests as bytes: the plain functions; the contracts of the program's texts, attr, attrs, mods.
  Filters as bytes: the plain functions; the contracts of the program's pieces and filters.
  The contracts of the program's Is of filters.
-/
import Derived.Test.YtgaahjmgneallaaGreatGan
import Derived.Test.YtgaahjmgneallaaGreatRows
import Derived.Test.YtgaahjmgneallaaGreatGac
import Derived.Test.YtgaahjmgneallaaGreatGal
set_option linter.unusedSimpArgs false
set_option linter.unusedVariables false
set_option linter.unusedVariables false
namespace Go.Fi
open Go.Vk
theorem nodesL_snoc {l : List Fil} {i : Nat} (h : i < l.length) : nodesL (l.take (i + 1)) = nodesL (l.take i) + nodes (l.getD i default) := by
  induction l generalizing i with
  | nil => simp at h
  | cons f r ih =>
    cases i with
    | zero => simp [nodesL]
    | succ i =>
      have := ih (i := i) (by simpa using h)
      simp only [List.take_succ_cons, nodesL, List.getD_cons_succ]
      omega
theorem nodesL_take (l : List Fil) (i : Nat) : nodesL (l.take i) ≤ nodesL l := by
  induction l generalizing i with
  | nil => simp
  | cons f r ih =>
    cases i with
    | zero => simp [nodesL]
    | succ i =>
      have := ih i
      simp only [List.take_succ_cons, nodesL]
      omega
theorem kid_lt : ∀ {l : List Fil} {f : Fil}, f ∈ l → nodes f ≤ nodesL l
  | [], f, h => by simp at h
  | g :: r, f, h => by
    rw [nodesL]
    rcases List.mem_cons.1 h with rfl | h
    · omega
    · have := kid_lt h; omega
theorem nodesL_len : ∀ l : List Fil, l.length ≤ nodesL l
  | [] => Nat.le_refl _
  | f :: r => by
    have := nodesL_len r
    rw [nodesL]
    cases f with
    | mk k t v s ks => rw [nodes]; simp only [List.length_cons]; omega
end Go.Fi
set_option maxRecDepth 8000
set_option linter.unusedVariables false
namespace Go.Proofs.YtgaahjmgneallaaGreat
open Go.Vk
attribute [local irreducible] HT HX RegS RegA RegM OpP OpC AltT
attribute [local irreducible] Fi.nodes Fi.nodesL
theorem rfNodesS (k : Int) (t v : List UInt8) (s : List (List UInt8)) (ks : List Fi.Fil) (hn : Fi.nodesL ks ≤ 1000000) (IH : ∀ f ∈ ks, CFn Tryz.prog 94 [TAgg (Fi.cF f)] (okI .i64 (Fi.nodes f : Int))) : CFn Tryz.prog 94 [TAgg (Fi.cF (.mk k t v s ks))] (okI .i64 ((1 + Fi.nodesL ks : Nat) : Int)) := by
  have hl := Fi.nodesL_len ks
  rw [Fi.cF_open]
  dsimp only [Fi.Fil.kind, Fi.Fil.typ, Fi.Fil.val, Fi.Fil.subs, Fi.Fil.kids]
  refine CallsC.of Tryz.call94 Tryz.func94 rfl Tryz.ntmps94 rfl fun w0 G0 S0 hs ho => ?_
  refine run ?_
  refine HT.loopX (σ := Nat) [1, 2] (fun i => [(3, okI .i64 ((1 + Fi.nodesL (ks.take i) : Nat) : Int)), (4, okI .i64 (i : Int))]) (fun _ => []) (fun i => i ≤ ks.length) (fun i => ks.length - i) 0 (Nat.zero_le _) (run trivial) (run ?_) ?_
  · unfold Fi.nodesL; rfl
  rintro i hi
  by_cases hlt : i < ks.length
  · have c1 := IH _ (En.getD_mem hlt)
    have h1 := Fi.nodesL_snoc hlt
    have h2 := Fi.nodesL_take ks (i + 1)
    clear IH
    refine run ?_
    intro _
    exact HX.roundX (i + 1) ⟨by omega, by omega⟩ rfl (run trivial) (run trivial)
  · rw [List.take_of_length_le (by omega)]
    clear IH
    exact run trivial
theorem rfNodes : ∀ (N : Nat) (f : Fi.Fil), Fi.nodes f ≤ N → Fi.nodes f ≤ 1000000 → CFn Tryz.prog 94 [TAgg (Fi.cF f)] (okI .i64 (Fi.nodes f : Int))
  | 0, .mk k t v s ks, h, _ => by unfold Fi.nodes at h; omega
  | N + 1, .mk k t v s ks, h, hw => by
    have e : Fi.nodes (.mk k t v s ks) = 1 + Fi.nodesL ks := by unfold Fi.nodes; rfl
    rw [e] at h hw ⊢
    exact rfNodesS k t v s ks (by omega) (fun f hf => rfNodes N f (by have := Fi.kid_lt hf; omega) (by have := Fi.kid_lt hf; omega))
end Go.Proofs.YtgaahjmgneallaaGreat
set_option linter.unusedVariables false
namespace Go.Fi
open Go.Vk
instance : DecidableEq Fil := fun a b => decidable_of_iff (sameF a b = true) (sameF_iff a b)
theorem fil_eq (k k' : Int) (t t' v v' : List UInt8) (s s' : List (List UInt8)) (ks ks' : List Fil) : decide (Fil.mk k t v s ks = Fil.mk k' t' v' s' ks') = (decide (k = k') && decide (t = t') && decide (v = v') && decide (s = s') && decide (ks = ks')) := by
  rw [Bool.eq_iff_iff]
  simp only [decide_eq_true_eq, Bool.and_eq_true, Fil.mk.injEq]
  constructor
  · rintro ⟨h1, h2, h3, h4, h5⟩; exact ⟨⟨⟨⟨h1, h2⟩, h3⟩, h4⟩, h5⟩
  · rintro ⟨⟨⟨⟨h1, h2⟩, h3⟩, h4⟩, h5⟩; exact ⟨h1, h2, h3, h4, h5⟩
theorem wtk : ∀ {l : List Fil} {f : Fil}, f ∈ l → wt f ≤ wtL l
  | [], f, h => by simp at h
  | g :: r, f, h => by
    rw [wtL]
    rcases List.mem_cons.1 h with rfl | h
    · omega
    · have := wtk h; omega
theorem wtl : ∀ l : List Fil, l.length ≤ wtL l
  | [] => Nat.le_refl _
  | f :: r => by
    have := wtl r
    rw [wtL]
    cases f with
    | mk k t v s ks => rw [wt]; simp only [List.length_cons]; omega
theorem sbl : ∀ l : List (List UInt8), l.length ≤ subsW l
  | [] => Nat.le_refl _
  | s :: r => by
    have := sbl r
    rw [subsW]; simp only [List.length_cons]; omega
end Go.Fi
set_option maxRecDepth 8000
set_option linter.unusedVariables false
namespace Go.Proofs.YtgaahjmgneallaaGreat
open Go.Vk
attribute [local irreducible] HT HX RegS RegA RegM OpP OpC AltT
attribute [local irreducible] Fi.nodes Fi.nodesL Fi.sameF
theorem txtEq16 (l m : List (List UInt8)) (hl : l.length ≤ 1152921504606846976) : CFn Tryz.prog 74 [TSl 1 Fi.cS l, TSl 1 Fi.cS m] (Is (.bool (decide (l = m)))) := by
  refine CallsC.of Tryz.call74 Tryz.func74 rfl Tryz.ntmps74 rfl fun w0 G0 S0 hs ho => ?_
  refine run ?_
  refine ⟨?_, ?_⟩
  · intro h
    exact (decide_eq_false (fun e => h (by rw [e]))).symm
  intro hc
  refine HT.loopX (σ := Nat) [0, 1, 12] (fun i => [(13, okI .i64 (i : Int))]) (fun _ => []) (fun i => i ≤ l.length ∧ l.take i = m.take i) (fun i => l.length - i) 0 ⟨Nat.zero_le _, rfl⟩ (run trivial) (run trivial) ?_
  rintro i ⟨hi, he⟩
  have hc' : l.length = m.length := by
    have : (l.length : Int) = (m.length : Int) := Decidable.not_not.1 hc
    omega
  refine run ?_
  and_intros
  all_goals intros
  · rename_i h1 h2
    exact (decide_eq_false (fun e => h2 (by rw [e]))).symm
  · rename_i h1 h2
    exact HX.roundX (i + 1) ⟨⟨by omega, En.take_ext (by omega) hc' he (Decidable.not_not.1 h2)⟩, by omega⟩ rfl (run trivial) (run trivial)
  · rename_i h1
    exact (decide_eq_true (En.take_all h1 hc' he)).symm
theorem filEq {f : FuncId} {Cs : List Ty} (l m : List Fi.Fil) (hl : l.length ≤ 1152921504606846976) (cf : ∀ a ∈ l, ∀ b, CFn Tryz.prog f ([TAgg (Fi.cF a), TAgg (Fi.cF b)] ++ Cs) (Is (.bool (decide (a = b))))) : CFn Tryz.prog 141 [TSl 5 Fi.cF l, TSl 5 Fi.cF m, TFn f Cs] (Is (.bool (decide (l = m)))) := by
  refine CallsC.of Tryz.call141 Tryz.func141 rfl Tryz.ntmps141 rfl fun w0 G0 S0 hs ho => ?_
  refine run ?_
  refine ⟨?_, ?_⟩
  · intro h
    exact (decide_eq_false (fun e => h (by rw [e]))).symm
  intro hc
  refine HT.loopX (σ := Nat) [1, 2, 15, 16] (fun i => [(17, okI .i64 (i : Int))]) (fun _ => []) (fun i => i ≤ l.length ∧ l.take i = m.take i) (fun i => l.length - i) 0 ⟨Nat.zero_le _, rfl⟩ (run trivial) (run trivial) ?_
  rintro i ⟨hi, he⟩
  have hc' : l.length = m.length := by
    have : (l.length : Int) = (m.length : Int) := Decidable.not_not.1 hc
    omega
  have cf' := fun (hlt : i < l.length) => cf (l.getD i default) (En.getD_mem hlt) (m.getD i default)
  clear cf
  refine run ?_
  refine ⟨fun _ _ h1 h2 => ?_, fun _ _ h1 h2 => ?_, fun h1 => ?_⟩
  · exact (decide_eq_false (fun e => h2 (by rw [e]))).symm
  · exact HX.roundX (i + 1) ⟨⟨by omega, En.take_ext (by omega) hc' he h2⟩, by omega⟩ rfl (run trivial) (run trivial)
  · exact (decide_eq_true (En.take_all h1 hc' he)).symm
theorem fpSameS (k k' : Int) (t t' v v' : List UInt8) (s s' : List (List UInt8)) (ks ks' : List Fi.Fil) (hs1 : s.length ≤ 1000000) (hk1 : ks.length ≤ 1000000) (IH : ∀ a ∈ ks, ∀ b, CFn Tryz.prog 128 [TAgg (Fi.cF a), TAgg (Fi.cF b)] (Is (.bool (decide (a = b))))) : CFn Tryz.prog 128 [TAgg (Fi.cF (.mk k t v s ks)), TAgg (Fi.cF (.mk k' t' v' s' ks'))] (Is (.bool (decide (Fi.Fil.mk k t v s ks = Fi.Fil.mk k' t' v' s' ks')))) := by
  have c1 := txtEq16 s s' (by omega)
  have c2 := filEq (f := 128) (Cs := []) ks ks' (by omega) IH
  clear IH
  rw [Fi.fil_eq, Fi.cF_open (.mk k t v s ks), Fi.cF_open (.mk k' t' v' s' ks')]
  dsimp only [Fi.Fil.kind, Fi.Fil.typ, Fi.Fil.val, Fi.Fil.subs, Fi.Fil.kids]
  refine CallsC.of Tryz.call128 Tryz.func128 rfl Tryz.ntmps128 rfl fun w0 G0 S0 hs ho => ?_
  exact run trivial
theorem fpSame : ∀ (N : Nat) (f : Fi.Fil), Fi.nodes f ≤ N → Fi.wt f ≤ 1000000 → ∀ b : Fi.Fil, CFn Tryz.prog 128 [TAgg (Fi.cF f), TAgg (Fi.cF b)] (Is (.bool (decide (f = b))))
  | 0, .mk k t v s ks, h, _, _ => by unfold Fi.nodes at h; omega
  | N + 1, .mk k t v s ks, h, hw, .mk k' t' v' s' ks' => by
    have e : Fi.nodes (.mk k t v s ks) = 1 + Fi.nodesL ks := by unfold Fi.nodes; rfl
    rw [e] at h
    rw [Fi.wt] at hw
    have w1 := Fi.wtl ks
    have w2 := Fi.sbl s
    exact fpSameS k k' t t' v v' s s' ks ks' (by omega) (by omega) (fun a ha b => fpSame N a (by have := Fi.kid_lt ha; omega) (by have := Fi.wtk ha; omega) b)
end Go.Proofs.YtgaahjmgneallaaGreat
set_option linter.unusedVariables false
namespace Go.Ms
open Go.Vk
def frEnd (b : List UInt8) (at' n : Int) : Int × Int := if 65536 < at' + n then (0, 5) else if (b.length : Int) < at' + n then (0, 0) else (at' + n, 0)
def frLong (b : List UInt8) (k : Nat) : Int := Ber.be 0 ((b.take (2 + k)).drop 2)
def frameB (b : List UInt8) : Int × Int :=
  if b.length < 1 then (0, 0)
  else if (b.getD 0 0).toNat ≠ 48 then (0, 3)
  else if b.length < 2 then (0, 0)
  else if (b.getD 1 0).toNat < 128 then frEnd b 2 ((b.getD 1 0).toNat : Int)
  else if (b.getD 1 0).toNat = 128 ∨ 132 < (b.getD 1 0).toNat then (0, 3)
  else if b.length < 2 + ((b.getD 1 0).toNat - 128) then (0, 0)
  else frEnd b (2 + (((b.getD 1 0).toNat - 128 : Nat) : Int)) (frLong b ((b.getD 1 0).toNat - 128))
theorem frame_0 {b : List UInt8} (h : b.length < 1) : frameB b = (0, 0) := if_pos h
theorem frame_1 {b : List UInt8} (h : ¬ b.length < 1) (h1 : (b.getD 0 0).toNat ≠ 48) : frameB b = (0, 3) := by
  unfold frameB; rw [if_neg h, if_pos h1]
theorem frame_2 {b : List UInt8} (h : ¬ b.length < 1) (h1 : (b.getD 0 0).toNat = 48) (h2 : b.length < 2) : frameB b = (0, 0) := by
  unfold frameB; rw [if_neg h, if_neg (by omega), if_pos h2]
theorem frame_3 {b : List UInt8} (h1 : (b.getD 0 0).toNat = 48) (h2 : ¬ b.length < 2) (h3 : (b.getD 1 0).toNat < 128) : frameB b = frEnd b 2 ((b.getD 1 0).toNat : Int) := by
  unfold frameB; rw [if_neg (by omega), if_neg (by omega), if_neg h2, if_pos h3]
theorem frame_4 {b : List UInt8} (h1 : (b.getD 0 0).toNat = 48) (h2 : ¬ b.length < 2) (h3 : ¬ (b.getD 1 0).toNat < 128) (h4 : (b.getD 1 0).toNat = 128 ∨ 132 < (b.getD 1 0).toNat) : frameB b = (0, 3) := by
  unfold frameB; rw [if_neg (by omega), if_neg (by omega), if_neg h2, if_neg h3, if_pos h4]
theorem frame_5 {b : List UInt8} (h1 : (b.getD 0 0).toNat = 48) (h2 : ¬ b.length < 2) (h3 : ¬ (b.getD 1 0).toNat < 128) (h4 : ¬ ((b.getD 1 0).toNat = 128 ∨ 132 < (b.getD 1 0).toNat)) (h5 : b.length < 2 + ((b.getD 1 0).toNat - 128)) : frameB b = (0, 0) := by
  unfold frameB; rw [if_neg (by omega), if_neg (by omega), if_neg h2, if_neg h3, if_neg h4, if_pos h5]
theorem frame_6 {b : List UInt8} (h1 : (b.getD 0 0).toNat = 48) (h2 : ¬ b.length < 2) (h3 : ¬ (b.getD 1 0).toNat < 128) (h4 : ¬ ((b.getD 1 0).toNat = 128 ∨ 132 < (b.getD 1 0).toNat)) (h5 : ¬ b.length < 2 + ((b.getD 1 0).toNat - 128)) : frameB b = frEnd b (2 + (((b.getD 1 0).toNat - 128 : Nat) : Int)) (frLong b ((b.getD 1 0).toNat - 128)) := by
  unfold frameB; rw [if_neg (by omega), if_neg (by omega), if_neg h2, if_neg h3, if_neg h4, if_neg h5]
theorem frEnd_5 {b : List UInt8} {a n : Int} (h : 65536 < a + n) : frEnd b a n = (0, 5) := if_pos h
theorem frEnd_0 {b : List UInt8} {a n : Int} (h : ¬ 65536 < a + n) (h1 : (b.length : Int) < a + n) : frEnd b a n = (0, 0) := by unfold frEnd; rw [if_neg h, if_pos h1]
theorem frEnd_1 {b : List UInt8} {a n : Int} (h : ¬ 65536 < a + n) (h1 : ¬ (b.length : Int) < a + n) : frEnd b a n = (a + n, 0) := by unfold frEnd; rw [if_neg h, if_neg h1]
theorem frLong_bd (b : List UInt8) {k : Nat} (h : k ≤ 4) : 0 ≤ frLong b k ∧ frLong b k ≤ 4294967295 := Ber.be_small _ (by simp; omega)
theorem frLong_zero (b : List UInt8) : frLong b 0 = 0 := by
  unfold frLong
  rw [List.drop_of_length_le (by simp; omega)]; rfl
theorem frLong_succ {b : List UInt8} {k : Nat} (h : 2 + k < b.length) : frLong b (k + 1) = frLong b k * 256 + ((b.getD (2 + k) 0).toNat : Int) := by
  unfold frLong
  have h1 := Ber.be_snoc 0 (b.drop 2) k (by simp; omega)
  have e : ∀ j, (b.take (2 + j)).drop 2 = (b.drop 2).take j := fun j => by rw [List.drop_take, Nat.add_sub_cancel_left]
  rw [e, e, h1]
  congr 2
  simp [List.getD_eq_getElem?_getD]
theorem frameB_le (b : List UInt8) : 0 ≤ (frameB b).1 ∧ (frameB b).1 ≤ (b.length : Int) := by
  have hE : ∀ a n : Int, 0 ≤ a → 0 ≤ n → 0 ≤ (frEnd b a n).1 ∧ (frEnd b a n).1 ≤ (b.length : Int) := by
    intro a n ha hn
    unfold frEnd
    split
    · dsimp only; omega
    split <;> dsimp only <;> omega
  unfold frameB
  split
  · dsimp only; omega
  split
  · dsimp only; omega
  split
  · dsimp only; omega
  split
  · exact hE _ _ (by omega) (by omega)
  split
  · dsimp only; omega
  split
  · dsimp only; omega
  · rename_i h _
    exact hE _ _ (by omega) (frLong_bd b (by omega)).1
end Go.Ms
set_option maxRecDepth 8000
set_option linter.unusedVariables false
namespace Go.Proofs.YtgaahjmgneallaaGreat
open Go.Vk
attribute [local irreducible] HT HX RegS RegA RegM OpP OpC AltT
attribute [local irreducible] Ms.frLong Ms.frEnd
set_option maxHeartbeats 4000000 in
theorem msFrame (b : List UInt8) (hb : b.length ≤ 140737488355328) : CFn Tryz.prog 24 [TBytes b] (TTup [okI .i64 (Ms.frameB b).1, okI .i64 (Ms.frameB b).2]) := by
  have hx := (b.getD 1 0).toNat_lt
  by_cases h0 : b.length < 1
  · rw [Ms.frame_0 h0]
    refine CallsC.of Tryz.call24 Tryz.func24 rfl Tryz.ntmps24 rfl fun w0 G0 S0 hs ho => ?_
    exact run trivial
  by_cases h1 : (b.getD 0 0).toNat ≠ 48
  · rw [Ms.frame_1 h0 h1]
    refine CallsC.of Tryz.call24 Tryz.func24 rfl Tryz.ntmps24 rfl fun w0 G0 S0 hs ho => ?_
    exact run trivial
  have h1 : (b.getD 0 0).toNat = 48 := Decidable.not_not.1 h1
  by_cases h2 : b.length < 2
  · rw [Ms.frame_2 h0 h1 h2]
    refine CallsC.of Tryz.call24 Tryz.func24 rfl Tryz.ntmps24 rfl fun w0 G0 S0 hs ho => ?_
    exact run trivial
  by_cases h3 : (b.getD 1 0).toNat < 128
  · rw [Ms.frame_3 h1 h2 h3]
    by_cases h7 : 65536 < (2 : Int) + ((b.getD 1 0).toNat : Int)
    · omega
    by_cases h8 : (b.length : Int) < 2 + ((b.getD 1 0).toNat : Int)
    · rw [Ms.frEnd_0 h7 h8]
      have h3' : ¬ ¬ (b.getD (nat_lit 1) 0).toNat < 128 := fun h => h h3
      have h8' : (b.length : Int) < 2 + ((b.getD (nat_lit 1) 0).toNat : Int) := h8
      refine CallsC.of Tryz.call24 Tryz.func24 rfl Tryz.ntmps24 rfl fun w0 G0 S0 hs ho => ?_
      exact run trivial
    · rw [Ms.frEnd_1 h7 h8]
      have h3' : ¬ ¬ (b.getD (nat_lit 1) 0).toNat < 128 := fun h => h h3
      have h8' : ¬ (b.length : Int) < 2 + ((b.getD (nat_lit 1) 0).toNat : Int) := h8
      refine CallsC.of Tryz.call24 Tryz.func24 rfl Tryz.ntmps24 rfl fun w0 G0 S0 hs ho => ?_
      exact run trivial
  have h3' : ¬ (b.getD (nat_lit 1) 0).toNat < 128 := h3
  have hx' : (b.getD (nat_lit 1) 0).toNat < 256 := hx
  by_cases h4 : (b.getD 1 0).toNat = 128 ∨ 132 < (b.getD 1 0).toNat
  · rw [Ms.frame_4 h1 h2 h3 h4]
    have h4' : (b.getD (nat_lit 1) 0).toNat = 128 ∨ 132 < (b.getD (nat_lit 1) 0).toNat := h4
    refine CallsC.of Tryz.call24 Tryz.func24 rfl Tryz.ntmps24 rfl fun w0 G0 S0 hs ho => ?_
    exact run trivial
  have h4' : ¬ ((b.getD (nat_lit 1) 0).toNat = 128 ∨ 132 < (b.getD (nat_lit 1) 0).toNat) := h4
  by_cases h5 : b.length < 2 + ((b.getD 1 0).toNat - 128)
  · rw [Ms.frame_5 h1 h2 h3 h4 h5]
    have h5' : b.length < 2 + ((b.getD (nat_lit 1) 0).toNat - 128) := h5
    refine CallsC.of Tryz.call24 Tryz.func24 rfl Tryz.ntmps24 rfl fun w0 G0 S0 hs ho => ?_
    exact run trivial
  have h5' : ¬ b.length < 2 + ((b.getD (nat_lit 1) 0).toNat - 128) := h5
  rw [Ms.frame_6 h1 h2 h3 h4 h5]
  obtain ⟨k, hk⟩ : ∃ k : Nat, k = (b.getD 1 0).toNat - 128 := ⟨_, rfl⟩
  have hk' : k = (b.getD (nat_lit 1) 0).toNat - 128 := hk
  rw [← hk]
  have ek : ((b.getD (nat_lit 1) 0).toNat : Int) - 128 = (k : Int) := by omega
  have hk4 : 1 ≤ k ∧ k ≤ 4 ∧ 2 + k ≤ b.length := by omega
  refine CallsC.of Tryz.call24 Tryz.func24 rfl Tryz.ntmps24 rfl fun w0 G0 S0 hs ho => ?_
  refine run ?_
  intros
  have es : ((b.take (2 + (((b.getD (nat_lit 1) 0).toNat : Int) - 128)).toNat).drop (Int.toNat 2)).length = k := by
    rw [ek]; simp; omega
  refine HT.loopX (σ := Nat) [0, 2, 3, 4, 45, 46] (fun i => [(5, okI .i64 (Ms.frLong b i)), (47, okI .i64 (i : Int))]) (fun i => []) (fun i => i ≤ k) (fun i => k - i) 0 (Nat.zero_le _) (run trivial) (by refine run ?_; exact (Ms.frLong_zero b).symm) ?_
  intro i hi
  have hb1 := Ms.frLong_bd b (k := i) (by omega)
  by_cases hlt : i < k
  · have hz := Ms.frLong_succ (b := b) (k := i) (by omega)
    have hge : ((b.take (2 + (((b.getD (nat_lit 1) 0).toNat : Int) - 128)).toNat).drop (Int.toNat 2)).getD i 0 = b.getD (2 + i) 0 := by
      rw [ek, show (2 + (k : Int)).toNat = 2 + k by omega]
      show ((b.take (2 + k)).drop 2).getD i 0 = _
      rw [List.drop_take, Nat.add_sub_cancel_left, List.getD_eq_getElem?_getD, List.getD_eq_getElem?_getD, List.getElem?_take, if_pos hlt, List.getElem?_drop]
    refine run ?_
    intro _
    exact HX.roundX (i + 1) ⟨by omega, by omega⟩ rfl (run trivial) (by refine run ?_; rw [hz, hge])
  · have he : i = k := by omega
    subst he
    by_cases h7 : 65536 < (2 + (i : Int)) + Ms.frLong b i
    · rw [Ms.frEnd_5 h7]
      exact run trivial
    by_cases h8 : (b.length : Int) < (2 + (i : Int)) + Ms.frLong b i
    · rw [Ms.frEnd_0 h7 h8]
      exact run trivial
    · rw [Ms.frEnd_1 h7 h8]
      exact run trivial
end Go.Proofs.YtgaahjmgneallaaGreat
set_option linter.unusedVariables false
namespace Go.Ms
open Go.Vk
abbrev cZ (n : Int) : List Ty := [okI .i64 n]
structure Mod where
  kind : Int
  typ : List UInt8
  vals : List (List UInt8)
deriving DecidableEq
instance : Inhabited Mod := ⟨⟨0, [], []⟩⟩
def cMod (m : Mod) : List Ty := [okI .i64 m.kind, Is (str m.typ), TSl 1 En.cS m.vals]
def isIntZ (n : Int) (l : List Int) : Bool := l.any (fun k => decide (n = k))
/-- The cells of a request that names nothing but its number and kind. -/
abbrev zReq (n k : Int) : List Ty := [okI .i64 n, okI .i64 k, Is (str []), Is (str []), okI .i64 0, okI .i64 0, okI .i64 0, Is (str []), Is (str []), Is (.slice none 0 0), Is (.slice none 0 0), Is (.slice none 0 0), Is (.slice none 0 0), Is (.slice none 0 0), Is (str []), Is (.bool false), Is (.bool false), Is (str []), Is (str []), Is (str []), okI .i64 0]
end Go.Ms
set_option maxRecDepth 8000
set_option linter.unusedVariables false
namespace Go.Proofs.YtgaahjmgneallaaGreat
open Go.Vk
attribute [local irreducible] HT HX RegS RegA RegM OpP OpC AltT
attribute [local irreducible] Ber.tagB Ber.lenB Ber.intB
theorem ixInt (l : List Int) (n : Int) (hl : l.length ≤ 1152921504606846976) : CFn Tryz.prog 112 [TSl 1 Ms.cZ l, okI .i64 n] (okI .i64 (En.ixOf (fun k => decide (n = k)) l)) := by
  refine CallsC.of Tryz.call112 Tryz.func112 rfl Tryz.ntmps112 rfl fun w0 G0 S0 hs ho => ?_
  refine run ?_
  refine HT.loopX (σ := Nat) [0, 1, 7] (fun i => [(8, okI .i64 (i : Int))]) (fun i => []) (fun i => i ≤ l.length ∧ (l.take i).any (fun k => decide (n = k)) = false) (fun i => l.length - i) 0 ⟨by omega, by simp⟩ (run trivial) (run trivial) ?_
  rintro i ⟨hi, hp⟩
  refine run ?_
  refine ⟨fun h1 h2 => ?_, fun h1 h2 => ?_, fun h1 => ?_⟩
  · exact (En.ixOf_at (by omega) hp (decide_eq_true h2)).symm
  · exact HX.roundX (i + 1) ⟨⟨by omega, En.any_snoc (by omega) hp (decide_eq_false h2)⟩, by omega⟩ rfl (run trivial) (run trivial)
  · exact (En.ixOf_none (by rwa [List.take_of_length_le (by omega)] at hp)).symm
theorem anyInt (l : List Int) (n : Int) (hl : l.length ≤ 1152921504606846976) : CFn Tryz.prog 69 [TSl 1 Ms.cZ l, okI .i64 n] (Is (.bool (Ms.isIntZ n l))) := by
  have c1 := ixInt l n hl
  refine CallsC.of Tryz.call69 Tryz.func69 rfl Tryz.ntmps69 rfl fun w0 G0 S0 hs ho => ?_
  refine run ?_
  exact En.ixOf_nonneg
theorem msIsKind (n : Int) : CFn Tryz.prog 96 [okI .i64 n] (Is (.bool (Ms.isIntZ n [0, 2, 3, 6, 8, 10, 12, 14, 16]))) := by
  have c1 := anyInt [0, 2, 3, 6, 8, 10, 12, 14, 16] n (by decide)
  refine CallsC.of Tryz.call96 Tryz.func96 rfl Tryz.ntmps96 rfl fun w0 G0 S0 hs ho => ?_
  exact run trivial
theorem msIsNum (n m : Int) : CFn Tryz.prog 68 [okI .i64 n, okI .i64 m] (Is (.bool (decide (m ≤ n) && decide (n ≤ 2147483647)))) := by
  refine CallsC.of Tryz.call68 Tryz.func68 rfl Tryz.ntmps68 rfl fun w0 G0 S0 hs ho => ?_
  exact run trivial
theorem msFewS (l : List (List UInt8)) : CFn Tryz.prog 100 [TSl 1 En.cS l] (Is (.bool (decide ((l.length : Int) ≤ 64)))) := by
  refine CallsC.of Tryz.call100 Tryz.func100 rfl Tryz.ntmps100 rfl fun w0 G0 S0 hs ho => ?_
  exact run trivial
theorem msFewM (l : List Ms.Mod) : CFn Tryz.prog 101 [TSl 3 Ms.cMod l] (Is (.bool (decide ((l.length : Int) ≤ 64)))) := by
  refine CallsC.of Tryz.call101 Tryz.func101 rfl Tryz.ntmps101 rfl fun w0 G0 S0 hs ho => ?_
  exact run trivial
theorem msFewA (l : List En.Attr) : CFn Tryz.prog 102 [TSl 2 En.cAttr l] (Is (.bool (decide ((l.length : Int) ≤ 64)))) := by
  refine CallsC.of Tryz.call102 Tryz.func102 rfl Tryz.ntmps102 rfl fun w0 G0 S0 hs ho => ?_
  exact run trivial
theorem msText (s : List UInt8) (hs : s.length ≤ 1000000) : CFn Tryz.prog 28 [Is (str s)] (TBytes (Ber.tagB 4 [s])) := by
  have c1 := (tagO 4 [s] (by rw [Ber.tot_one]; omega) (by simp)).justFn
  refine CallsC.of Tryz.call28 Tryz.func28 rfl Tryz.ntmps28 rfl fun w0 G0 S0 hs ho => ?_
  exact run trivial
theorem modEq {f : FuncId} {Cs : List Ty} (l m : List Ms.Mod) (hl : l.length ≤ 1152921504606846976) (cf : ∀ a ∈ l, ∀ b, CFn Tryz.prog f ([TAgg (Ms.cMod a), TAgg (Ms.cMod b)] ++ Cs) (Is (.bool (decide (a = b))))) : CFn Tryz.prog 129 [TSl 3 Ms.cMod l, TSl 3 Ms.cMod m, TFn f Cs] (Is (.bool (decide (l = m)))) := by
  refine CallsC.of Tryz.call129 Tryz.func129 rfl Tryz.ntmps129 rfl fun w0 G0 S0 hs ho => ?_
  refine run ?_
  refine ⟨?_, ?_⟩
  · intro h
    exact (decide_eq_false (fun e => h (by rw [e]))).symm
  intro hc
  refine HT.loopX (σ := Nat) [1, 2, 15, 16] (fun i => [(17, okI .i64 (i : Int))]) (fun _ => []) (fun i => i ≤ l.length ∧ l.take i = m.take i) (fun i => l.length - i) 0 ⟨Nat.zero_le _, rfl⟩ (run trivial) (run trivial) ?_
  rintro i ⟨hi, he⟩
  have hc' : l.length = m.length := by
    have : (l.length : Int) = (m.length : Int) := Decidable.not_not.1 hc
    omega
  have cf' := fun (hlt : i < l.length) => cf (l.getD i default) (En.getD_mem hlt) (m.getD i default)
  clear cf
  refine run ?_
  refine ⟨fun _ _ h1 h2 => ?_, fun _ _ h1 h2 => ?_, fun h1 => ?_⟩
  · exact (decide_eq_false (fun e => h2 (by rw [e]))).symm
  · exact HX.roundX (i + 1) ⟨⟨by omega, En.take_ext (by omega) hc' he h2⟩, by omega⟩ rfl (run trivial) (run trivial)
  · exact (decide_eq_true (En.take_all h1 hc' he)).symm
theorem attrEq {f : FuncId} {Cs : List Ty} (l m : List En.Attr) (hl : l.length ≤ 1152921504606846976) (cf : ∀ a ∈ l, ∀ b, CFn Tryz.prog f ([TAgg (En.cAttr a), TAgg (En.cAttr b)] ++ Cs) (Is (.bool (decide (a = b))))) : CFn Tryz.prog 35 [TSl 2 En.cAttr l, TSl 2 En.cAttr m, TFn f Cs] (Is (.bool (decide (l = m)))) := by
  refine CallsC.of Tryz.call35 Tryz.func35 rfl Tryz.ntmps35 rfl fun w0 G0 S0 hs ho => ?_
  refine run ?_
  refine ⟨?_, ?_⟩
  · intro h
    exact (decide_eq_false (fun e => h (by rw [e]))).symm
  intro hc
  refine HT.loopX (σ := Nat) [1, 2, 15, 16] (fun i => [(17, okI .i64 (i : Int))]) (fun _ => []) (fun i => i ≤ l.length ∧ l.take i = m.take i) (fun i => l.length - i) 0 ⟨Nat.zero_le _, rfl⟩ (run trivial) (run trivial) ?_
  rintro i ⟨hi, he⟩
  have hc' : l.length = m.length := by
    have : (l.length : Int) = (m.length : Int) := Decidable.not_not.1 hc
    omega
  have cf' := fun (hlt : i < l.length) => cf (l.getD i default) (En.getD_mem hlt) (m.getD i default)
  clear cf
  refine run ?_
  refine ⟨fun _ _ h1 h2 => ?_, fun _ _ h1 h2 => ?_, fun h1 => ?_⟩
  · exact (decide_eq_false (fun e => h2 (by rw [e]))).symm
  · exact HX.roundX (i + 1) ⟨⟨by omega, En.take_ext (by omega) hc' he h2⟩, by omega⟩ rfl (run trivial) (run trivial)
  · exact (decide_eq_true (En.take_all h1 hc' he)).symm
theorem ixMod {f : FuncId} {Cs : List Ty} (l : List Ms.Mod) (p : Ms.Mod → Bool) (hl : l.length ≤ 1152921504606846976) (cf : ∀ a ∈ l, CFn Tryz.prog f ([TAgg (Ms.cMod a)] ++ Cs) (Is (.bool (p a)))) : CFn Tryz.prog 132 [TSl 3 Ms.cMod l, TFn f Cs] (okI .i64 (En.ixOf p l)) := by
  refine CallsC.of Tryz.call132 Tryz.func132 rfl Tryz.ntmps132 rfl fun w0 G0 S0 hs ho => ?_
  refine run ?_
  refine HT.loopX (σ := Nat) [0, 1, 7] (fun i => [(8, okI .i64 (i : Int))]) (fun i => []) (fun i => i ≤ l.length ∧ (l.take i).any p = false) (fun i => l.length - i) 0 ⟨by omega, by simp⟩ (run trivial) (run trivial) ?_
  rintro i ⟨hi, hp⟩
  have cf' := fun (hlt : i < l.length) => cf (l.getD i default) (En.getD_mem hlt)
  clear cf
  refine run ?_
  refine ⟨fun h1 h2 => ?_, fun h1 h2 => ?_, fun h1 => ?_⟩
  · exact (En.ixOf_at (by omega) hp h2).symm
  · exact HX.roundX (i + 1) ⟨⟨by omega, En.any_snoc (by omega) hp h2⟩, by omega⟩ rfl (run trivial) (run trivial)
  · exact (En.ixOf_none (by rwa [List.take_of_length_le (by omega)] at hp)).symm
theorem anyMod {f : FuncId} {Cs : List Ty} (l : List Ms.Mod) (p : Ms.Mod → Bool) (hl : l.length ≤ 1152921504606846976) (cf : ∀ a ∈ l, CFn Tryz.prog f ([TAgg (Ms.cMod a)] ++ Cs) (Is (.bool (p a)))) : CFn Tryz.prog 103 [TSl 3 Ms.cMod l, TFn f Cs] (Is (.bool (l.any p))) := by
  have c1 := ixMod l p hl cf
  refine CallsC.of Tryz.call103 Tryz.func103 rfl Tryz.ntmps103 rfl fun w0 G0 S0 hs ho => ?_
  refine run ?_
  exact En.ixOf_nonneg
end Go.Proofs.YtgaahjmgneallaaGreat
set_option linter.unusedVariables false
namespace Go.Ms
open Go.Vk
open Go.En (Attr)
/-- The sum of a measure. -/
def sm {α : Type} (f : α → Nat) (l : List α) : Nat := (l.map f).sum
theorem sm_snoc {α : Type} [Inhabited α] {f : α → Nat} {l : List α} {i : Nat} (h : i < l.length) : sm f (l.take (i + 1)) = sm f (l.take i) + f (l.getD i default) := by
  unfold sm
  rw [List.take_add_one, List.map_append, List.sum_append, List.getElem?_eq_getElem h, List.getD_eq_getElem?_getD, List.getElem?_eq_getElem h]
  simp
theorem sm_take {α : Type} (f : α → Nat) (l : List α) (i : Nat) : sm f (l.take i) ≤ sm f l := by
  have : sm f l = sm f (l.take i) + sm f (l.drop i) := by
    unfold sm; rw [← List.sum_append, ← List.map_append, List.take_append_drop]
  omega
theorem sm_mem {α : Type} {f : α → Nat} : ∀ {l : List α} {a : α}, a ∈ l → f a ≤ sm f l
  | [], a, h => by simp at h
  | b :: r, a, h => by
    unfold sm
    rw [List.map_cons, List.sum_cons]
    rcases List.mem_cons.1 h with rfl | h
    · omega
    · have := sm_mem (f := f) h; unfold sm at this; omega
theorem sm_len {α : Type} {f : α → Nat} (h : ∀ a, 1 ≤ f a) : ∀ l : List α, l.length ≤ sm f l
  | [] => by simp [sm]
  | b :: r => by
    have := sm_len h r
    have := h b
    unfold sm at *
    rw [List.map_cons, List.sum_cons, List.length_cons]; omega
theorem map_snoc {α β : Type} [Inhabited α] {f : α → β} {l : List α} {i : Nat} (h : i < l.length) : (l.take (i + 1)).map f = (l.take i).map f ++ [f (l.getD i default)] := by
  rw [List.take_add_one, List.map_append, List.getElem?_eq_getElem h, List.getD_eq_getElem?_getD, List.getElem?_eq_getElem h]
  rfl
theorem tagB_le (t : UInt8) (ls : List (List UInt8)) : (Ber.tagB t ls).length ≤ Ber.tot ls + 10 := by
  have h := Ber.lenB_len (Ber.tot ls : Int)
  unfold Ber.tagB
  simp only [List.length_cons, List.length_append, Ber.tot_flat]
  omega
theorem tot_map {α : Type} {g : α → List UInt8} {f : α → Nat} (h : ∀ a, (g a).length ≤ f a) : ∀ l : List α, Ber.tot (l.map g) ≤ sm f l
  | [] => by simp [Ber.tot, sm]
  | a :: r => by
    have h1 := h a
    have h2 := tot_map h r
    unfold Ber.tot sm at *
    simp only [List.map_cons, List.sum_cons]
    omega
theorem tot_mem {α : Type} {g : α → List UInt8} {f : α → Nat} : ∀ l : List α, (∀ a ∈ l, (g a).length ≤ f a) → Ber.tot (l.map g) ≤ sm f l
  | [], _ => by simp [Ber.tot, sm]
  | a :: r, h => by
    have h1 := h a (by simp)
    have h2 := tot_mem r (fun a ha => h a (by simp [ha]))
    unfold Ber.tot sm at *
    simp only [List.map_cons, List.sum_cons]
    omega
theorem tot_nil : Ber.tot [] = 0 := rfl
theorem tot_cons (a : List UInt8) (l : List (List UInt8)) : Ber.tot (a :: l) = a.length + Ber.tot l := by simp [Ber.tot]
def textB (s : List UInt8) : List UInt8 := Ber.tagB 4 [s]
def textsB (t : UInt8) (l : List (List UInt8)) : List UInt8 := Ber.tagB t (l.map textB)
def attB (t : List UInt8) (l : List (List UInt8)) : List UInt8 := Ber.tagB 48 [textB t, textsB 49 l]
def attrB (a : Attr) : List UInt8 := attB a.typ a.vals
def attrsB (l : List Attr) : List UInt8 := Ber.tagB 48 (l.map attrB)
def modB (m : Mod) : List UInt8 := Ber.tagB 48 [Ber.tagB 10 [Ber.intB m.kind], attB m.typ m.vals]
def modsB (l : List Mod) : List UInt8 := Ber.tagB 48 (l.map modB)
/-! ### how long -/
def wV (s : List UInt8) : Nat := s.length + 10
def wVs (l : List (List UInt8)) : Nat := sm wV l + 10
def wAt (t : List UInt8) (l : List (List UInt8)) : Nat := t.length + wVs l + 30
def wA (a : Attr) : Nat := wAt a.typ a.vals
def wM (m : Mod) : Nat := wAt m.typ m.vals + 40
theorem textB_le (s : List UInt8) : (textB s).length ≤ wV s := by
  have := tagB_le 4 [s]
  rw [Ber.tot_one] at this
  exact this
theorem textsB_le (t : UInt8) (l : List (List UInt8)) : (textsB t l).length ≤ wVs l := by
  have h1 := tagB_le t (l.map textB)
  have h2 := tot_map textB_le l
  unfold textsB wVs; omega
theorem attB_le (t : List UInt8) (l : List (List UInt8)) : (attB t l).length ≤ wAt t l := by
  have h1 := tagB_le 48 [textB t, textsB 49 l]
  have h2 := textB_le t
  have h3 := textsB_le 49 l
  rw [tot_cons, tot_cons, tot_nil] at h1
  unfold attB wAt
  unfold wV at h2
  omega
theorem attrB_le (a : Attr) : (attrB a).length ≤ wA a := attB_le _ _
def okK (n : Int) : Prop := -9223372036854775808 ≤ n ∧ n ≤ 9223372036854775807
theorem modB_le {m : Mod} (h : okK m.kind) : (modB m).length ≤ wM m := by
  have h1 := tagB_le 48 [Ber.tagB 10 [Ber.intB m.kind], attB m.typ m.vals]
  have h2 := attB_le m.typ m.vals
  have h3 := tagB_le 10 [Ber.intB m.kind]
  have h4 := Ber.intB_len m.kind h
  rw [tot_cons, tot_cons, tot_nil] at h1
  rw [Ber.tot_one] at h3
  unfold modB wM
  omega
theorem wV_pos (s : List UInt8) : 1 ≤ wV s := by unfold wV; omega
theorem wA_pos (a : Attr) : 1 ≤ wA a := by unfold wA wAt; omega
theorem wM_pos (a : Mod) : 1 ≤ wM a := by unfold wM wAt; omega
end Go.Ms
set_option maxRecDepth 8000
set_option linter.unusedVariables false
namespace Go.Proofs.YtgaahjmgneallaaGreat
open Go.Vk
attribute [local irreducible] HT HX RegS RegA RegM OpP OpC AltT
attribute [local irreducible] Ber.tagB Ber.lenB Ber.intB Ms.textB Ms.textsB Ms.attB Ms.attrB Ms.modB Ms.wV Ms.wA Ms.wM
theorem msText' (s : List UInt8) (hs9 : s.length ≤ 100000000) : CFn Tryz.prog 28 [Is (str s)] (TBytes (Ms.textB s)) := by
  have c1 := (tagO 4 [s] (by rw [Ber.tot_one]; omega) (by simp)).justFn
  have e : Ms.textB s = Ber.tagB 4 [s] := by unfold Ms.textB; rfl
  rw [e]
  refine CallsC.of Tryz.call28 Tryz.func28 rfl Tryz.ntmps28 rfl fun w0 G0 S0 hs ho => ?_
  exact run trivial
set_option maxHeartbeats 1000000 in
theorem msTexts (t : UInt8) (l : List (List UInt8)) (hl : Ms.sm Ms.wV l ≤ 100000000) : CFn Tryz.prog 109 [okI .u8 (t.toNat : Int), TSl 1 En.cS l] (TBytes (Ms.textsB t l)) := by
  have hlen := Ms.sm_len Ms.wV_pos l
  have htot := Ms.tot_map Ms.textB_le l
  have c2 := (tagO t (l.map Ms.textB) (by omega) (by rw [List.length_map]; omega)).justFn
  have e : Ms.textsB t l = Ber.tagB t (l.map Ms.textB) := by unfold Ms.textsB; rfl
  rw [e]
  refine CallsC.of Tryz.call109 Tryz.func109 rfl Tryz.ntmps109 rfl fun w0 G0 S0 hs ho => ?_
  refine run ?_
  refine HT.loopX (σ := (Nat × List (List UInt8)) × Value) [0, 4, 8, 9] (fun t => [(5, TAnd (Is t.2) (TSl 1 (cL 1 cB) t.1.2)), (10, okI .i64 (t.1.1 : Int))]) (fun t => [ownSl t.2 1 26]) (fun t => t.1.1 ≤ l.length ∧ t.1.2 = (l.take t.1.1).map Ms.textB) (fun t => l.length - t.1.1) ((0, []), .slice none 0 0) ⟨Nat.zero_le _, rfl⟩ (run trivial) (run trivial) ?_
  rintro ⟨⟨i, acc⟩, w⟩ ⟨hi, ha⟩
  dsimp only at hi ha ⊢
  have hal : acc.length = i := by rw [ha, List.length_map, List.length_take]; omega
  by_cases hlt : i < l.length
  · have c1 := msText' (l.getD i default) (by
      have h9 := Ms.sm_mem (f := Ms.wV) (En.getD_mem hlt)
      have h8 : Ms.wV (l.getD i default) = (l.getD i default).length + 10 := by unfold Ms.wV; rfl
      omega)
    clear c2
    refine run ?_
    intro w' _
    exact HX.roundX ((i + 1, acc ++ [Ms.textB (l.getD i default)]), w') ⟨⟨by dsimp only; omega, by dsimp only; rw [Ms.map_snoc hlt, ha]⟩, by dsimp only; omega⟩ rfl (run trivial) (run trivial)
  · have ha' : acc = l.map Ms.textB := by rw [ha, List.take_of_length_le (by omega)]
    subst ha'
    exact run trivial
theorem msAttr (t : List UInt8) (l : List (List UInt8)) (hl : Ms.wAt t l ≤ 100000000) : CFn Tryz.prog 70 [Is (str t), TSl 1 En.cS l] (TBytes (Ms.attB t l)) := by
  have hd : Ms.wAt t l = t.length + (Ms.sm Ms.wV l + 10) + 30 := rfl
  have c1 := msText' t (by omega)
  have c2 := msTexts 49 l (by omega)
  have h1 := Ms.textB_le t
  have h2 := Ms.textsB_le 49 l
  have hd1 : Ms.wV t = t.length + 10 := by unfold Ms.wV; rfl
  have hd2 : Ms.wVs l = Ms.sm Ms.wV l + 10 := rfl
  have c3 := (tagO 48 [Ms.textB t, Ms.textsB 49 l] (by rw [Ms.tot_cons, Ms.tot_cons, Ms.tot_nil]; omega) (by simp)).justFn
  have e : Ms.attB t l = Ber.tagB 48 [Ms.textB t, Ms.textsB 49 l] := by unfold Ms.attB; rfl
  rw [e]
  have c4 : CFn Tryz.prog 23 [okI .u8 48, TSlX 1 (fun ts : List Ty => ts) [[TBytes (Ms.textB t)], [TBytes (Ms.textsB 49 l)]]] (TBytes (Ber.tagB 48 [Ms.textB t, Ms.textsB 49 l])) := CFn.sub c3 (by exact byQ)
  clear c3
  refine CallsC.of Tryz.call70 Tryz.func70 rfl Tryz.ntmps70 rfl fun w0 G0 S0 hs ho => ?_
  exact run trivial
set_option maxHeartbeats 1000000 in
theorem msAttrs (l : List En.Attr) (hl : Ms.sm Ms.wA l ≤ 100000000) : CFn Tryz.prog 29 [TSl 2 En.cAttr l] (TBytes (Ms.attrsB l)) := by
  have hlen := Ms.sm_len Ms.wA_pos l
  have htot := Ms.tot_map Ms.attrB_le l
  have c2 := (tagO 48 (l.map Ms.attrB) (by omega) (by rw [List.length_map]; omega)).justFn
  have e : Ms.attrsB l = Ber.tagB 48 (l.map Ms.attrB) := by unfold Ms.attrsB; rfl
  rw [e]
  refine CallsC.of Tryz.call29 Tryz.func29 rfl Tryz.ntmps29 rfl fun w0 G0 S0 hs ho => ?_
  refine run ?_
  refine HT.loopX (σ := (Nat × List (List UInt8)) × Value) [2, 6, 7] (fun t => [(3, TAnd (Is t.2) (TSl 1 (cL 1 cB) t.1.2)), (8, okI .i64 (t.1.1 : Int))]) (fun t => [ownSl t.2 1 26]) (fun t => t.1.1 ≤ l.length ∧ t.1.2 = (l.take t.1.1).map Ms.attrB) (fun t => l.length - t.1.1) ((0, []), .slice none 0 0) ⟨Nat.zero_le _, rfl⟩ (run trivial) (run trivial) ?_
  rintro ⟨⟨i, acc⟩, w⟩ ⟨hi, ha⟩
  dsimp only at hi ha ⊢
  have hal : acc.length = i := by rw [ha, List.length_map, List.length_take]; omega
  by_cases hlt : i < l.length
  · have c1 : CFn Tryz.prog 70 [Is (str (l.getD i default).typ), TSl 1 En.cS (l.getD i default).vals] (TBytes (Ms.attrB (l.getD i default))) := by
      have h9 := Ms.sm_mem (f := Ms.wA) (En.getD_mem hlt)
      have h8 : Ms.wA (l.getD i default) = Ms.wAt (l.getD i default).typ (l.getD i default).vals := by unfold Ms.wA; rfl
      have e : Ms.attrB (l.getD i default) = Ms.attB (l.getD i default).typ (l.getD i default).vals := by unfold Ms.attrB; rfl
      rw [e]
      exact msAttr _ _ (by omega)
    clear c2
    refine run ?_
    intro v0 w' _
    exact HX.roundX ((i + 1, acc ++ [Ms.attrB (l.getD i default)]), w') ⟨⟨by dsimp only; omega, by dsimp only; rw [Ms.map_snoc hlt, ha]⟩, by dsimp only; omega⟩ rfl (run trivial) (run trivial)
  · have ha' : acc = l.map Ms.attrB := by rw [ha, List.take_of_length_le (by omega)]
    subst ha'
    exact run trivial
set_option maxHeartbeats 1000000 in
theorem msMods (l : List Ms.Mod) (hl : Ms.sm Ms.wM l ≤ 100000000) (hk : ∀ m ∈ l, Ms.okK m.kind) : CFn Tryz.prog 110 [TSl 3 Ms.cMod l] (TBytes (Ms.modsB l)) := by
  have hlen := Ms.sm_len Ms.wM_pos l
  have htot := Ms.tot_mem (f := Ms.wM) (g := Ms.modB) l (fun a ha => Ms.modB_le (hk a ha))
  have c2 := (tagO 48 (l.map Ms.modB) (by omega) (by rw [List.length_map]; omega)).justFn
  have e : Ms.modsB l = Ber.tagB 48 (l.map Ms.modB) := by unfold Ms.modsB; rfl
  rw [e]
  refine CallsC.of Tryz.call110 Tryz.func110 rfl Tryz.ntmps110 rfl fun w0 G0 S0 hs ho => ?_
  refine run ?_
  refine HT.loopX (σ := (Nat × List (List UInt8)) × Value) [2, 6, 7] (fun t => [(3, TAnd (Is t.2) (TSl 1 (cL 1 cB) t.1.2)), (8, okI .i64 (t.1.1 : Int))]) (fun t => [ownSl t.2 1 26]) (fun t => t.1.1 ≤ l.length ∧ t.1.2 = (l.take t.1.1).map Ms.modB) (fun t => l.length - t.1.1) ((0, []), .slice none 0 0) ⟨Nat.zero_le _, rfl⟩ (run trivial) (run trivial) ?_
  rintro ⟨⟨i, acc⟩, w⟩ ⟨hi, ha⟩
  dsimp only at hi ha ⊢
  have hal : acc.length = i := by rw [ha, List.length_map, List.length_take]; omega
  by_cases hlt : i < l.length
  · have h9 := Ms.sm_mem (f := Ms.wM) (En.getD_mem hlt)
    have hk9 := hk _ (En.getD_mem hlt)
    have h8 : Ms.wM (l.getD i default) = Ms.wAt (l.getD i default).typ (l.getD i default).vals + 40 := by unfold Ms.wM; rfl
    have c1 := msAttr (l.getD i default).typ (l.getD i default).vals (by omega)
    have c3 := int (l.getD i default).kind hk9
    have h4 := Ber.intB_len (l.getD i default).kind hk9
    have h5 := Ms.attB_le (l.getD i default).typ (l.getD i default).vals
    have h3 := Ms.tagB_le 10 [Ber.intB (l.getD i default).kind]
    rw [Ber.tot_one] at h3
    have c4 : CFn Tryz.prog 23 [okI .u8 10, TSlX 1 (fun ts : List Ty => ts) [[TBytes (Ber.intB (l.getD i default).kind)]]] (TBytes (Ber.tagB 10 [Ber.intB (l.getD i default).kind])) := CFn.sub (tagO 10 [Ber.intB (l.getD i default).kind] (by rw [Ber.tot_one]; omega) (by simp)).justFn (by exact byQ)
    have c5 : CFn Tryz.prog 23 [okI .u8 48, TSlX 1 (fun ts : List Ty => ts) [[TBytes (Ber.tagB 10 [Ber.intB (l.getD i default).kind])], [TBytes (Ms.attB (l.getD i default).typ (l.getD i default).vals)]]] (TBytes (Ms.modB (l.getD i default))) := by
      have e : Ms.modB (l.getD i default) = Ber.tagB 48 [Ber.tagB 10 [Ber.intB (l.getD i default).kind], Ms.attB (l.getD i default).typ (l.getD i default).vals] := by unfold Ms.modB; rfl
      rw [e]
      exact CFn.sub (tagO 48 [Ber.tagB 10 [Ber.intB (l.getD i default).kind], Ms.attB (l.getD i default).typ (l.getD i default).vals] (by rw [Ms.tot_cons, Ms.tot_cons, Ms.tot_nil]; omega) (by simp)).justFn (by exact byQ)
    have pl := Plan.mk' 5 [(0,3,[]),(1,3,[]),(2,2,[1]),(3,3,[]),(4,3,[]),(5,3,[]),(6,3,[]),(7,2,[1]),(8,3,[]),(9,2,[1]),(10,3,[]),(11,3,[]),(12,3,[]),(13,3,[]),(14,0,[1]),(15,3,[])]
    clear c2 hk
    refine run ?_
    intro v0 w' _
    exact HX.roundX ((i + 1, acc ++ [Ms.modB (l.getD i default)]), w') ⟨⟨by dsimp only; omega, by dsimp only; rw [Ms.map_snoc hlt, ha]⟩, by dsimp only; omega⟩ rfl (run trivial) (run trivial)
  · have ha' : acc = l.map Ms.modB := by rw [ha, List.take_of_length_le (by omega)]
    subst ha'
    exact run trivial
end Go.Proofs.YtgaahjmgneallaaGreat
set_option linter.unusedVariables false
namespace Go.Ms
open Go.Vk
open Go.Fi (Fil)
def pieceL (n i : Nat) (s : List UInt8) : List (List UInt8) := if 0 < i ∧ i + 1 < n then [Ber.tagB 129 [s]] else if s = [] then [] else if i = 0 then [Ber.tagB 128 [s]] else [Ber.tagB 130 [s]]
def pcs (l : List (List UInt8)) : Nat → List (List UInt8)
  | 0 => []
  | i + 1 => pcs l i ++ pieceL l.length i (l.getD i default)
def piecesB (l : List (List UInt8)) : List UInt8 := Ber.tagB 48 (pcs l l.length)
theorem pieceL_le (n i : Nat) (s : List UInt8) : Ber.tot (pieceL n i s) ≤ wV s ∧ (pieceL n i s).length ≤ 1 := by
  have h1 := tagB_le 129 [s]
  have h2 := tagB_le 128 [s]
  have h3 := tagB_le 130 [s]
  rw [Ber.tot_one] at h1 h2 h3
  unfold pieceL wV
  split
  · rw [Ber.tot_one]; exact ⟨h1, Nat.le_refl _⟩
  split
  · rw [tot_nil]; exact ⟨Nat.zero_le _, Nat.zero_le _⟩
  split
  · rw [Ber.tot_one]; exact ⟨h2, Nat.le_refl _⟩
  · rw [Ber.tot_one]; exact ⟨h3, Nat.le_refl _⟩
theorem pcs_le (l : List (List UInt8)) : ∀ i, i ≤ l.length → Ber.tot (pcs l i) ≤ sm wV (l.take i) ∧ (pcs l i).length ≤ i
  | 0, _ => by rw [pcs, tot_nil]; exact ⟨Nat.zero_le _, Nat.le_refl _⟩
  | i + 1, h => by
    have h1 := pcs_le l i (by omega)
    have h2 := pieceL_le l.length i (l.getD i default)
    have h3 := sm_snoc (f := wV) (l := l) (i := i) (by omega)
    rw [pcs, Ber.tot_append, List.length_append, h3]
    omega
theorem piecesB_le (l : List (List UInt8)) : (piecesB l).length ≤ wVs l := by
  have h1 := tagB_le 48 (pcs l l.length)
  have h2 := pcs_le l l.length (Nat.le_refl _)
  rw [List.take_length] at h2
  unfold piecesB wVs; omega
/-- The tag of a filter of a kind. -/
def tagF (k : Int) : UInt8 := b8 160 ||| b8 k
mutual
def filB : Fil → List UInt8
  | .mk k t v s ks => if k = 7 then Ber.tagB 135 [t] else if k = 4 then Ber.tagB (tagF 4) [textB t, piecesB s] else if k = 3 ∨ k = 5 ∨ k = 6 then Ber.tagB (tagF k) [textB t, textB v] else Ber.tagB (tagF k) (filsB ks)
def filsB : List Fil → List (List UInt8)
  | [] => []
  | f :: r => filB f :: filsB r
end
theorem filsB_map : ∀ l : List Fil, filsB l = l.map filB
  | [] => by unfold filsB; rfl
  | f :: r => by unfold filsB; rw [filsB_map r]; rfl
mutual
/-- How heavy. -/
def wF : Fil → Nat
  | .mk _ t v s ks => t.length + v.length + wVs s + 100 + wFs ks
def wFs : List Fil → Nat
  | [] => 0
  | f :: r => wF f + wFs r
end
theorem wFs_sm : ∀ l : List Fil, wFs l = sm wF l
  | [] => by unfold wFs; rfl
  | f :: r => by unfold wFs; rw [wFs_sm r]; rfl
theorem wF_pos (f : Fil) : 1 ≤ wF f := by cases f; unfold wF; omega
mutual
theorem filB_le : ∀ f : Fil, (filB f).length ≤ wF f
  | .mk k t v s ks => by
    have h1 := tagB_le 135 [t]
    have h2 := tagB_le (tagF 4) [textB t, piecesB s]
    have h3 := tagB_le (tagF k) [textB t, textB v]
    have h4 := tagB_le (tagF k) (filsB ks)
    have h5 := filsB_le ks
    have h6 := textB_le t
    have h7 := textB_le v
    have h8 := piecesB_le s
    rw [Ber.tot_one] at h1
    rw [tot_cons, tot_cons, tot_nil] at h2 h3
    unfold wV at h6 h7
    unfold filB wF
    split
    · omega
    split
    · omega
    split
    · omega
    · omega
theorem filsB_le : ∀ l : List Fil, Ber.tot (filsB l) ≤ wFs l
  | [] => by unfold filsB wFs; exact Nat.le_refl _
  | f :: r => by
    have h1 := filB_le f
    have h2 := filsB_le r
    unfold filsB wFs
    rw [tot_cons]; omega
end
mutual
/-- A filter of one of the eight kinds; who compares has no kids. -/
def Prf : Fil → Prop
  | .mk k _ _ _ ks => ((k = 0 ∨ k = 1 ∨ k = 2) ∨ ((k = 3 ∨ k = 4 ∨ k = 5 ∨ k = 6 ∨ k = 7) ∧ ks = [])) ∧ PrfL ks
def PrfL : List Fil → Prop
  | [] => True
  | f :: r => Prf f ∧ PrfL r
end
theorem PrfL_mem : ∀ {l : List Fil}, PrfL l ↔ ∀ f ∈ l, Prf f
  | [] => by unfold PrfL; simp
  | f :: r => by unfold PrfL; rw [PrfL_mem (l := r)]; simp
mutual
theorem one_pr : ∀ (f : Fil) (d : Nat), Fi.oneF f d = true → Prf f
  | .mk k t v s ks, d, h => by
    have h0 := h
    by_cases hd : d ≤ 16
    case neg => rw [show Fi.oneF (.mk k t v s ks) d = false by unfold Fi.oneF; simp [hd]] at h; exact absurd h (by simp)
    have hks : ∀ d', Fi.oneL ks d' = true → PrfL ks := fun d' h' => oneL_pr ks d' h'
    have hnil : ks = [] → PrfL ks := fun e => by subst e; unfold PrfL; trivial
    unfold Prf
    unfold Fi.oneF at h
    grind
theorem oneL_pr : ∀ (l : List Fil) (d : Nat), Fi.oneL l d = true → PrfL l
  | [], _, _ => by unfold PrfL; trivial
  | f :: r, d, h => by
    unfold Fi.oneL at h
    rw [Bool.and_eq_true] at h
    unfold PrfL
    exact ⟨one_pr f d h.1, oneL_pr r d h.2⟩
end
theorem isF_pr {f : Fil} (h : Fi.isF f = true) : Prf f := by
  unfold Fi.isF at h
  rw [Bool.and_eq_true] at h
  exact one_pr f 1 h.1
theorem tagF_or (k : Int) : ((b8 160 ||| b8 k).toNat : Int) = ((tagF k).toNat : Int) := rfl
theorem filB_b {k : Int} (h : k = 0 ∨ k = 1 ∨ k = 2) (t v : List UInt8) (s : List (List UInt8)) (ks : List Fil) : filB (.mk k t v s ks) = Ber.tagB (tagF k) (ks.map filB) := by
  unfold filB; rw [if_neg (by omega), if_neg (by omega), if_neg (by omega), filsB_map]
theorem filB_3 {k : Int} (h : k = 3 ∨ k = 5 ∨ k = 6) (t v : List UInt8) (s : List (List UInt8)) (ks : List Fil) : filB (.mk k t v s ks) = Ber.tagB (tagF k) [textB t, textB v] := by
  unfold filB; rw [if_neg (by omega), if_neg (by omega), if_pos h]
theorem filB_4 (t v : List UInt8) (s : List (List UInt8)) (ks : List Fil) : filB (.mk 4 t v s ks) = Ber.tagB (tagF 4) [textB t, piecesB s] := by
  unfold filB; rw [if_neg (by omega), if_pos rfl]
theorem filB_7 (t v : List UInt8) (s : List (List UInt8)) (ks : List Fil) : filB (.mk 7 t v s ks) = Ber.tagB 135 [t] := by
  unfold filB; rw [if_pos rfl]
theorem wF_mk (k : Int) (t v : List UInt8) (s : List (List UInt8)) (ks : List Fil) : wF (.mk k t v s ks) = t.length + v.length + (sm wV s + 10) + 100 + sm wF ks := by
  unfold wF; rw [wFs_sm]; rfl
end Go.Ms
set_option maxRecDepth 8000
set_option linter.unusedVariables false
namespace Go.Proofs.YtgaahjmgneallaaGreat
open Go.Vk
attribute [local irreducible] HT HX RegS RegA RegM OpP OpC AltT
attribute [local irreducible] Ber.tagB Ber.lenB Ber.intB Ms.textB Ms.wV Ms.wF Ms.filB Ms.piecesB Ms.tagF
set_option maxHeartbeats 2000000 in
theorem msPieces (l : List (List UInt8)) (hl : Ms.sm Ms.wV l ≤ 100000000) : CFn Tryz.prog 134 [TSl 1 En.cS l] (TBytes (Ms.piecesB l)) := by
  have hlen := Ms.sm_len Ms.wV_pos l
  have htot := Ms.pcs_le l l.length (Nat.le_refl _)
  rw [List.take_length] at htot
  have c2 := (tagO 48 (Ms.pcs l l.length) (by omega) (by omega)).justFn
  have e : Ms.piecesB l = Ber.tagB 48 (Ms.pcs l l.length) := by unfold Ms.piecesB; rfl
  rw [e]
  refine CallsC.of Tryz.call134 Tryz.func134 rfl Tryz.ntmps134 rfl fun w0 G0 S0 hs ho => ?_
  refine run ?_
  refine HT.loopX (σ := (Nat × List (List UInt8)) × Value) [0, 2, 6, 7] (fun t => [(3, TAnd (Is t.2) (TSl 1 (cL 1 cB) t.1.2)), (8, okI .i64 (t.1.1 : Int))]) (fun t => [ownSl t.2 1 26]) (fun t => t.1.1 ≤ l.length ∧ t.1.2 = Ms.pcs l t.1.1) (fun t => l.length - t.1.1) ((0, []), .slice none 0 0) ⟨Nat.zero_le _, rfl⟩ (run trivial) (run trivial) ?_
  rintro ⟨⟨i, acc⟩, w⟩ ⟨hi, ha⟩
  dsimp only at hi ha ⊢
  have hal : acc.length ≤ i := by rw [ha]; exact (Ms.pcs_le l i hi).2
  by_cases hlt : i < l.length
  · have h9 := Ms.sm_mem (f := Ms.wV) (En.getD_mem hlt)
    have h8 : Ms.wV (l.getD i default) = (l.getD i default).length + 10 := by unfold Ms.wV; rfl
    have hz : Ms.pcs l (i + 1) = acc ++ Ms.pieceL l.length i (l.getD i default) := by rw [Ms.pcs, ha]
    have cT : ∀ t : UInt8, CFn Tryz.prog 23 [okI .u8 (t.toNat : Int), TSlX 1 (fun ts : List Ty => ts) [[TBytes (l.getD i default)]]] (TBytes (Ber.tagB t [l.getD i default])) := fun t => CFn.sub (tagO t [l.getD i default] (by rw [Ber.tot_one]; omega) (by simp)).justFn (by exact byQ)
    clear c2
    have c3 := cT 128
    have c4 := cT 129
    have c5 := cT 130
    clear cT
    refine run ?_
    refine ⟨fun w' _ h1 => ?_, fun _ h1 h2 => ?_, fun w' _ h1 h2 h3 => ?_, fun w' _ h1 h2 h3 => ?_⟩
    · have e : Ms.pieceL l.length i (l.getD i default) = [Ber.tagB 129 [l.getD i default]] := if_pos (by omega)
      rw [e] at hz
      exact HX.roundX ((i + 1, acc ++ [Ber.tagB 129 [l.getD i default]]), w') ⟨⟨by dsimp only; omega, hz.symm⟩, by dsimp only; omega⟩ rfl (run trivial) (run trivial)
    · have e : Ms.pieceL l.length i (l.getD i default) = [] := by unfold Ms.pieceL; rw [if_neg (by omega), if_pos h2]
      rw [e, List.append_nil] at hz
      exact HX.roundX ((i + 1, acc), w) ⟨⟨by dsimp only; omega, hz.symm⟩, by dsimp only; omega⟩ rfl (run trivial) (run trivial)
    · have e : Ms.pieceL l.length i (l.getD i default) = [Ber.tagB 128 [l.getD i default]] := by unfold Ms.pieceL; rw [if_neg (by omega), if_neg h2, if_pos (by omega)]
      rw [e] at hz
      exact HX.roundX ((i + 1, acc ++ [Ber.tagB 128 [l.getD i default]]), w') ⟨⟨by dsimp only; omega, hz.symm⟩, by dsimp only; omega⟩ rfl (run trivial) (run trivial)
    · have e : Ms.pieceL l.length i (l.getD i default) = [Ber.tagB 130 [l.getD i default]] := by unfold Ms.pieceL; rw [if_neg (by omega), if_neg h2, if_neg (by omega)]
      rw [e] at hz
      exact HX.roundX ((i + 1, acc ++ [Ber.tagB 130 [l.getD i default]]), w') ⟨⟨by dsimp only; omega, hz.symm⟩, by dsimp only; omega⟩ rfl (run trivial) (run trivial)
  · have hie : i = l.length := by omega
    subst hie
    rw [← ha] at c2 ⊢
    exact run trivial
set_option maxHeartbeats 2000000 in
theorem msFilterS (k : Int) (t v : List UInt8) (s : List (List UInt8)) (ks : List Fi.Fil) (hk : (k = 0 ∨ k = 1 ∨ k = 2) ∨ ((k = 3 ∨ k = 4 ∨ k = 5 ∨ k = 6 ∨ k = 7) ∧ ks = [])) (hw : Ms.wF (.mk k t v s ks) ≤ 100000000) (IH : ∀ f ∈ ks, CFn Tryz.prog 108 [TAgg (Fi.cF f)] (TBytes (Ms.filB f))) : CFn Tryz.prog 108 [TAgg (Fi.cF (.mk k t v s ks))] (TBytes (Ms.filB (.mk k t v s ks))) := by
  rw [Ms.wF_mk] at hw
  rw [Fi.cF_open]
  dsimp only [Fi.Fil.kind, Fi.Fil.typ, Fi.Fil.val, Fi.Fil.subs, Fi.Fil.kids]
  have ct := msText' t (by omega)
  have hT := Ms.textB_le t
  have hd1 : Ms.wV t = t.length + 10 := by unfold Ms.wV; rfl
  rcases hk with hk | ⟨hk, rfl⟩
  · have hlen := Ms.sm_len Ms.wF_pos ks
    have htot := Ms.tot_map Ms.filB_le ks
    have c2 : CFn Tryz.prog 23 [okI .u8 ((b8 160 ||| b8 k).toNat : Int), TSl 1 (cL 1 cB) (ks.map Ms.filB)] (TBytes (Ber.tagB (Ms.tagF k) (ks.map Ms.filB))) := by
      rw [Ms.tagF_or]
      exact (tagO (Ms.tagF k) (ks.map Ms.filB) (by omega) (by rw [List.length_map]; omega)).justFn
    rw [Ms.filB_b hk]
    clear ct
    refine CallsC.of Tryz.call108 Tryz.func108 rfl Tryz.ntmps108 rfl fun w0 G0 S0 hs ho => ?_
    refine run ?_
    intro _ _ _ _ _
    refine HT.loopX (σ := (Nat × List (List UInt8)) × Value) [1, 2, 36, 37] (fun t' => [(3, TAnd (Is t'.2) (TSl 1 (cL 1 cB) t'.1.2)), (38, okI .i64 (t'.1.1 : Int))]) (fun t' => [ownSl t'.2 1 26]) (fun t' => t'.1.1 ≤ ks.length ∧ t'.1.2 = (ks.take t'.1.1).map Ms.filB) (fun t' => ks.length - t'.1.1) ((0, []), .slice none 0 0) ⟨Nat.zero_le _, rfl⟩ (run trivial) (run trivial) ?_
    rintro ⟨⟨i, acc⟩, w⟩ ⟨hi, ha⟩
    dsimp only at hi ha ⊢
    have hal : acc.length = i := by rw [ha, List.length_map, List.length_take]; omega
    by_cases hlt : i < ks.length
    · have c1 := IH _ (En.getD_mem hlt)
      clear c2 IH
      refine run ?_
      intro v0 w' _
      exact HX.roundX ((i + 1, acc ++ [Ms.filB (ks.getD i default)]), w') ⟨⟨by dsimp only; omega, by dsimp only; rw [Ms.map_snoc hlt, ha]⟩, by dsimp only; omega⟩ rfl (run trivial) (run trivial)
    · have ha' : acc = ks.map Ms.filB := by rw [ha, List.take_of_length_le (by omega)]
      subst ha'
      clear IH
      exact run trivial
  · by_cases h7 : k = 7
    · subst h7
      have c2 : CFn Tryz.prog 23 [okI .u8 135, TSlX 1 (fun ts : List Ty => ts) [[TBytes t]]] (TBytes (Ber.tagB 135 [t])) := CFn.sub (tagO 135 [t] (by rw [Ber.tot_one]; omega) (by simp)).justFn (by exact byQ)
      rw [Ms.filB_7]
      clear IH
      refine CallsC.of Tryz.call108 Tryz.func108 rfl Tryz.ntmps108 rfl fun w0 G0 S0 hs ho => ?_
      exact run trivial
    by_cases h4 : k = 4
    · subst h4
      have cp := msPieces s (by omega)
      have hP := Ms.piecesB_le s
      have hd2 : Ms.wVs s = Ms.sm Ms.wV s + 10 := rfl
      have c2 : CFn Tryz.prog 23 [okI .u8 ((b8 160 ||| b8 4).toNat : Int), TSlX 1 (fun ts : List Ty => ts) [[TBytes (Ms.textB t)], [TBytes (Ms.piecesB s)]]] (TBytes (Ber.tagB (Ms.tagF 4) [Ms.textB t, Ms.piecesB s])) := by
        rw [Ms.tagF_or]
        exact CFn.sub (tagO (Ms.tagF 4) [Ms.textB t, Ms.piecesB s] (by rw [Ms.tot_cons, Ms.tot_cons, Ms.tot_nil]; omega) (by simp)).justFn (by exact byQ)
      rw [Ms.filB_4]
      clear IH
      have hz0 : ((@List.nil Fi.Fil).length : Int) = 0 := rfl
      refine CallsC.of Tryz.call108 Tryz.func108 rfl Tryz.ntmps108 rfl fun w0 G0 S0 hs ho => ?_
      refine run ?_
      intro _ _
      refine HT.loopX (σ := Unit) [1, 2, 36, 37] (fun _ => [(3, TSlX 1 (fun ts : List Ty => ts) [[TBytes (Ms.textB t)], [TBytes (Ms.piecesB s)]]), (38, okI .i64 0)]) (fun _ => []) (fun _ => True) (fun _ => 0) () trivial (run trivial) (run trivial) ?_
      intro _ _
      exact run trivial
    · have cv := msText' v (by omega)
      have hV := Ms.textB_le v
      have hd2 : Ms.wV v = v.length + 10 := by unfold Ms.wV; rfl
      have c2 : CFn Tryz.prog 23 [okI .u8 ((b8 160 ||| b8 k).toNat : Int), TSlX 1 (fun ts : List Ty => ts) [[TBytes (Ms.textB t)], [TBytes (Ms.textB v)]]] (TBytes (Ber.tagB (Ms.tagF k) [Ms.textB t, Ms.textB v])) := by
        rw [Ms.tagF_or]
        exact CFn.sub (tagO (Ms.tagF k) [Ms.textB t, Ms.textB v] (by rw [Ms.tot_cons, Ms.tot_cons, Ms.tot_nil]; omega) (by simp)).justFn (by exact byQ)
      rw [Ms.filB_3 (by omega)]
      clear IH
      have hz0 : ((@List.nil Fi.Fil).length : Int) = 0 := rfl
      refine CallsC.of Tryz.call108 Tryz.func108 rfl Tryz.ntmps108 rfl fun w0 G0 S0 hs ho => ?_
      refine run ?_
      refine ⟨?_, ?_, ?_⟩ <;> intros
      all_goals
        refine HT.loopX (σ := Unit) [1, 2, 36, 37] (fun _ => [(3, TSlX 1 (fun ts : List Ty => ts) [[TBytes (Ms.textB t)], [TBytes (Ms.textB v)]]), (38, okI .i64 0)]) (fun _ => []) (fun _ => True) (fun _ => 0) () trivial (run trivial) (run trivial) ?_
        intro _ _
        exact run trivial
theorem msFilterN : ∀ (N : Nat) (f : Fi.Fil), Fi.nodes f ≤ N → Ms.wF f ≤ 100000000 → Ms.Prf f → CFn Tryz.prog 108 [TAgg (Fi.cF f)] (TBytes (Ms.filB f))
  | 0, .mk k t v s ks, h, _, _ => by unfold Fi.nodes at h; omega
  | N + 1, .mk k t v s ks, h, hw, hp => by
    have e : Fi.nodes (.mk k t v s ks) = 1 + Fi.nodesL ks := by unfold Fi.nodes; rfl
    rw [e] at h
    have hw' := hw
    rw [Ms.wF_mk] at hw'
    unfold Ms.Prf at hp
    exact msFilterS k t v s ks hp.1 hw (fun f hf => msFilterN N f (by have := Fi.kid_lt hf; omega) (by have := Ms.sm_mem (f := Ms.wF) hf; omega) (Ms.PrfL_mem.1 hp.2 f hf))
theorem msFilters (f : Fi.Fil) (hw : Ms.wF f ≤ 100000000) (hp : Ms.Prf f) : CFn Tryz.prog 108 [TAgg (Fi.cF f)] (TBytes (Ms.filB f)) := msFilterN (Fi.nodes f) f (Nat.le_refl _) hw hp
end Go.Proofs.YtgaahjmgneallaaGreat
set_option linter.unusedVariables false
namespace Go.Fi
open Go.Vk
open Go.Dn (typB)
theorem mid_all (l : List (List UInt8)) : ((l.drop 1).dropLast.all fun s => !decide (s = [])) = !decide ([] ∈ (l.drop 1).dropLast) := by
  rw [Bool.eq_iff_iff]
  simp only [List.all_eq_true, Bool.not_eq_true', decide_eq_false_iff_not]
  exact ⟨fun h hm => h _ hm rfl, fun h x hx e => h (e ▸ hx)⟩
theorem mid_slice (l : List (List UInt8)) (h : 1 ≤ l.length) : (l.take ((l.length : Int) - 1).toNat).drop 1 = (l.drop 1).dropLast := by
  rw [show ((l.length : Int) - 1).toNat = l.length - 1 by omega, List.dropLast_eq_take, List.drop_take, List.length_drop]
theorem subs_any {l : List (List UInt8)} (h : 2 ≤ l.length) (hm : [] ∉ (l.drop 1).dropLast) : (l.any fun s => !decide (s = [])) = (decide (2 < l.length) || (decide (l.getD 0 [] ≠ []) || decide (l.getD 1 [] ≠ []))) := by
  match l, h with
  | [a, b], _ => simp
  | a :: b :: c :: r, _ =>
    have hb : b ≠ [] := fun e => hm (by subst e; simp)
    simp [hb]
theorem okS_any (l : List (List UInt8)) : l.all okS = !l.any (fun v => decide (256 < (v.length : Int))) := by
  rw [List.not_any_eq_all_not]
  congr 1
  funext v
  unfold okS
  rw [Bool.eq_iff_iff]
  simp only [decide_eq_true_eq, Bool.not_eq_true', decide_eq_false_iff_not]
  omega
theorem subsB_no {l : List (List UInt8)} (h : (l.length : Int) < 2 ∨ 16 < (l.length : Int) ∨ l.any (fun v => decide (256 < (v.length : Int))) = true) : subsB l = false := by
  unfold subsB
  rcases h with h | h | h
  · rw [decide_eq_false (p := 2 ≤ l.length) (by omega)]; simp
  · rw [decide_eq_false (p := l.length ≤ 16) (by omega)]; simp
  · rw [okS_any, h]; simp
theorem subsB_eq {l : List (List UInt8)} (h1 : ¬ (l.length : Int) < 2) (h2 : ¬ 16 < (l.length : Int)) (h3 : l.any (fun v => decide (256 < (v.length : Int))) = false) : subsB l = (!decide ([] ∈ (l.drop 1).dropLast) && (decide (2 < l.length) || (decide (l.getD 0 [] ≠ []) || decide (l.getD 1 [] ≠ [])))) := by
  unfold subsB
  rw [decide_eq_true (p := 2 ≤ l.length) (by omega), decide_eq_true (p := l.length ≤ 16) (by omega), okS_any, h3, mid_all]
  by_cases hm : [] ∈ (l.drop 1).dropLast
  · rw [decide_eq_true hm]; simp
  · rw [decide_eq_false hm, subs_any (by omega) hm]; simp
end Go.Fi
set_option maxRecDepth 8000
set_option linter.unusedVariables false
namespace Go.Proofs.YtgaahjmgneallaaGreat
open Go.Vk
attribute [local irreducible] HT HX RegS RegA RegM OpP OpC AltT
attribute [local irreducible] Dn.typB
theorem ixStr (l : List (List UInt8)) (x : List UInt8) (hl : l.length ≤ 1152921504606846976) : CFn Tryz.prog 153 [TSl 1 Fi.cS l, Is (str x)] (okI .i64 (En.ixOf (fun y => decide (x = y)) l)) := by
  refine CallsC.of Tryz.call153 Tryz.func153 rfl Tryz.ntmps153 rfl fun w0 G0 S0 hs ho => ?_
  refine run ?_
  refine HT.loopX (σ := Nat) [0, 1, 7] (fun i => [(8, okI .i64 (i : Int))]) (fun i => []) (fun i => i ≤ l.length ∧ (l.take i).any (fun y => decide (x = y)) = false) (fun i => l.length - i) 0 ⟨by omega, by simp⟩ (run trivial) (run trivial) ?_
  rintro i ⟨hi, hp⟩
  refine run ?_
  refine ⟨fun h1 h2 => ?_, fun h1 h2 => ?_, fun h1 => ?_⟩
  · exact (En.ixOf_at (by omega) hp (decide_eq_true h2)).symm
  · exact HX.roundX (i + 1) ⟨⟨by omega, En.any_snoc (by omega) hp (decide_eq_false h2)⟩, by omega⟩ rfl (run trivial) (run trivial)
  · exact (En.ixOf_none (by rwa [List.take_of_length_le (by omega)] at hp)).symm
theorem inStr (l : List (List UInt8)) (x : List UInt8) (hl : l.length ≤ 1152921504606846976) : CFn Tryz.prog 150 [TSl 1 Fi.cS l, Is (str x)] (Is (.bool (decide (x ∈ l)))) := by
  have c1 := ixStr l x hl
  refine CallsC.of Tryz.call150 Tryz.func150 rfl Tryz.ntmps150 rfl fun w0 G0 S0 hs ho => ?_
  refine run ?_
  rw [En.ixOf_nonneg, Bool.eq_iff_iff, List.any_eq_true, decide_eq_true_eq]
  exact ⟨fun ⟨y, hy, e⟩ => by rw [decide_eq_true_eq] at e; rw [e]; exact hy, fun h => ⟨x, h, decide_eq_true rfl⟩⟩
theorem fpSub1 (v : List UInt8) : CFn Tryz.prog 149 [Is (str v)] (Is (.bool (decide (256 < (v.length : Int))))) := by
  refine CallsC.of Tryz.call149 Tryz.func149 rfl Tryz.ntmps149 rfl fun w0 G0 S0 hs ho => ?_
  exact run trivial
theorem fpSubs (l : List (List UInt8)) (hl : l.length ≤ 1152921504606846976) : CFn Tryz.prog 143 [TSl 1 Fi.cS l] (Is (.bool (Fi.subsB l))) := by
  have c1 := anyTxt (f := 149) (Cs := []) l (fun v => decide (256 < (v.length : Int))) hl (fun a _ => fpSub1 a)
  have c2 := inStr
  refine CallsC.of Tryz.call143 Tryz.func143 rfl Tryz.ntmps143 rfl fun w0 G0 S0 hs ho => ?_
  refine run ?_
  refine ⟨fun h => (Fi.subsB_no ?_).symm, fun h => ?_⟩
  · rcases h with (h | h) | h
    · exact .inl h
    · exact .inr (.inl h)
    · exact .inr (.inr h)
  · rw [Fi.subsB_eq h.1.1 h.1.2 h.2, ← Fi.mid_slice l (by omega), Bool.or_assoc]
    congr 2
    exact decide_eq_decide.2 (by omega)
end Go.Proofs.YtgaahjmgneallaaGreat
