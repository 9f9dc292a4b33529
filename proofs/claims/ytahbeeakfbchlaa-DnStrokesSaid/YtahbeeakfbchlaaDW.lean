/-
  What is told is parsed as it was: the plain side. Nothing here speaks of a program; no conditions.
-/
import Derived.Test.YtahbeeakfbchlaaDU
set_option linter.unusedVariables false
namespace Go.Dn
open Go.Vk
theorem getD_of_drop {s r : List UInt8} {n : Nat} {c : UInt8} (h : s.drop n = c :: r) : n < s.length ∧ s.getD n 0 = c ∧ s.drop (n + 1) = r := by
  have h1 : n < s.length := by
    have := congrArg List.length h
    simp at this; omega
  rw [drop_cons h1] at h
  simp only [List.cons.injEq] at h
  exact ⟨h1, h.1, h.2⟩
theorem drop_app {s t r : List UInt8} {n : Nat} (h : s.drop n = t ++ r) : s.drop (n + t.length) = r := by
  rw [← List.drop_drop, h, List.drop_left]
theorem drop_len {s t r : List UInt8} {n : Nat} (h : s.drop n = t ++ r) : t.length + r.length = s.length - n := by
  have := congrArg List.length h
  simp at this; omega
theorem take_seg {s t r : List UInt8} {n : Nat} (h : s.drop n = t ++ r) : (s.take (n + t.length)).drop n = t := by
  rw [List.drop_take, h, show n + t.length - n = t.length by omega, List.take_left]
/-- Where something ends: nothing, or a byte that is not of the kind. -/
def Stops (p : UInt8 → Bool) (r : List UInt8) : Prop := r = [] ∨ ∃ c q, r = c :: q ∧ p c = false
theorem skipE_app {p : UInt8 → Bool} {s t r : List UInt8} {n : Nat} (h : s.drop n = t ++ r) (ht : ∀ c ∈ t, p c = true) (hr : Stops p r) : skipE p s n = n + t.length := by
  unfold skipE
  rw [h, List.takeWhile_append_of_pos ht]
  rcases hr with rfl | ⟨c, q, rfl, hc⟩
  · simp
  · rw [List.takeWhile_cons, if_neg (by rw [hc]; simp)]; simp
/-! ### values -/
/-- How a byte may be told: its text, the byte, whether it counts. -/
def OkU (u : List UInt8 × UInt8 × Bool) : Prop :=
  (u.1 = [u.2.1] ∧ u.2.1 ∉ spc ∧ u.2.1 ≠ 32 ∧ u.2.2 = true) ∨ (u.1 = [32] ∧ u.2.1 = 32 ∧ u.2.2 = false) ∨ (u.1 = [92, u.2.1] ∧ u.2.1 ∈ strk ∧ u.2.2 = true) ∨
    ∃ h l, u.1 = [92, h, l] ∧ h ∉ strk ∧ hexOk h = true ∧ hexOk l = true ∧ u.2.1 = b8 (hexV h * 16 + hexV l) ∧ u.2.2 = true
theorem b92 : ((92 : UInt8).toNat : Int) = 92 := rfl
theorem ne_of {c d : UInt8} (h : c ≠ d) : ¬ (c.toNat : Int) = (d.toNat : Int) := fun e => h (UInt8.toNat_inj.1 (by omega))
theorem valE_unit {u : List UInt8 × UInt8 × Bool} (hu : OkU u) {k : Nat} {s r : List UInt8} {n : Nat} {b : List UInt8} {e : Nat} (h : s.drop n = u.1 ++ r) :
    valE (k + 1) s n b e = valE k s (n + u.1.length) (b ++ [u.2.1]) (if u.2.2 = true then b.length + 1 else e) := by
  obtain ⟨t, c, st⟩ := u
  rcases hu with ⟨h1, h2, h3, h4⟩ | ⟨h1, h2, h4⟩ | ⟨h1, h2, h4⟩ | ⟨x, y, h1, h2, h3, h5, h6, h4⟩ <;> dsimp only at h1 h2 h4 h ⊢ <;> subst h1 <;> subst h4
  · obtain ⟨g1, g2, g3⟩ := getD_of_drop (c := c) h
    have hs : ¬ 0 ≤ Lib.indexByte spc c := fun hh => h2 ((indexByte_iff _ _).1 hh)
    have h44 : c ≠ 44 := fun e => h2 (by rw [e]; decide)
    have h92 : c ≠ 92 := fun e => h2 (by rw [e]; decide)
    rw [valE_else ⟨g1, by rw [g2]; exact ne_of h44⟩ (by rw [g2]; exact ne_of h92) (by rw [g2]; exact hs) (by rw [g2]; exact ne_of h3), g2]
    simp
  · subst h2
    obtain ⟨g1, g2, g3⟩ := getD_of_drop (c := 32) h
    have hs : ¬ 0 ≤ Lib.indexByte spc 32 := fun hh => by have := (indexByte_iff _ _).1 hh; revert this; decide
    rw [valE_blank ⟨g1, by rw [g2]; decide⟩ (by rw [g2]; decide) (by rw [g2]; exact hs) (by rw [g2]; rfl), g2]
    simp
  · obtain ⟨g1, g2, g3⟩ := getD_of_drop (c := 92) h
    obtain ⟨f1, f2, f3⟩ := getD_of_drop (c := c) (n := n + 1) g3
    have hE : strokeE s (n + 1) = (n + 2, (c.toNat : Int), true) := by
      rw [strokeE_1 f1 (by rw [f2]; exact (indexByte_iff _ _).2 h2), f2]
    rw [valE_str ⟨g1, by rw [g2]; decide⟩ (by rw [g2]; rfl) (by rw [hE]), hE]
    dsimp only
    rw [b8_c]; rfl
  · obtain ⟨g1, g2, g3⟩ := getD_of_drop (c := 92) h
    obtain ⟨f1, f2, f3⟩ := getD_of_drop (c := x) (n := n + 1) g3
    obtain ⟨e1, e2, e3⟩ := getD_of_drop (c := y) (n := n + 1 + 1) f3
    have hE : strokeE s (n + 1) = (n + 1 + 2, hexV x * 16 + hexV y, true) := by
      rw [strokeE_3 (by rw [f2]; exact fun hh => h2 ((indexByte_iff _ _).1 hh)) (by rw [f2]; exact h3) e1, f2, e2, h5]
    rw [valE_str ⟨g1, by rw [g2]; decide⟩ (by rw [g2]; rfl) (by rw [hE]), hE]
    rw [show c = b8 (hexV x * 16 + hexV y) from h6]; rfl
theorem OkU.pos {u : List UInt8 × UInt8 × Bool} (hu : OkU u) : 1 ≤ u.1.length := by
  rcases hu with ⟨h1, _⟩ | ⟨h1, _⟩ | ⟨h1, _⟩ | ⟨_, _, h1, _⟩ <;> rw [h1] <;> simp
abbrev Us := List (List UInt8 × UInt8 × Bool)
def txt (U : Us) : List UInt8 := U.flatMap (·.1)
def byt (U : Us) : List UInt8 := U.map (·.2.1)
def eOf : Us → Nat → Nat → Nat
  | [], _, e => e
  | u :: U, n, e => eOf U (n + 1) (if u.2.2 = true then n + 1 else e)
theorem eOf_app : ∀ (U V : Us) (n e : Nat), eOf (U ++ V) n e = eOf V (n + U.length) (eOf U n e)
  | [], V, n, e => rfl
  | u :: U, V, n, e => by
    simp only [List.cons_append, eOf, List.length_cons]
    rw [eOf_app U V]
    congr 1; omega
theorem txt_len {U : Us} (hU : ∀ u ∈ U, OkU u) : U.length ≤ (txt U).length := by
  induction U with
  | nil => simp
  | cons u U ih =>
    have h1 := (hU u (by simp)).pos
    have h2 := ih (fun v hv => hU v (by simp [hv]))
    unfold txt at *
    simp only [List.flatMap_cons, List.length_append, List.length_cons]; omega
theorem valE_units : ∀ {U : Us}, (∀ u ∈ U, OkU u) → ∀ {k : Nat} {s r : List UInt8} {n : Nat} {b : List UInt8} {e : Nat}, s.drop n = txt U ++ r → U.length ≤ k →
    valE k s n b e = valE (k - U.length) s (n + (txt U).length) (b ++ byt U) (eOf U b.length e)
  | [], _, k, s, r, n, b, e, h, hk => by simp [txt, byt, eOf]
  | u :: U, hU, k, s, r, n, b, e, h, hk => by
    obtain ⟨k, rfl⟩ : ∃ j, k = j + 1 := ⟨k - 1, by simp at hk; omega⟩
    have h' : s.drop n = u.1 ++ (txt U ++ r) := by rw [h]; simp [txt]
    rw [valE_unit (hU u (by simp)) h', valE_units (fun v hv => hU v (by simp [hv])) (drop_app h') (by simp at hk; omega)]
    simp only [List.length_cons, List.length_append, List.length_nil, eOf, txt, byt, List.flatMap_cons, List.map_cons, List.append_assoc, List.singleton_append]
    congr 1
    · omega
    · omega
theorem eOf_blank (g n e : Nat) : eOf (List.replicate g ([32], 32, false)) n e = e := by
  induction g generalizing n with
  | zero => rfl
  | succ g ih => simp only [List.replicate_succ, eOf]; exact ih _
theorem rep_txt (g : Nat) : txt (List.replicate g (([32], 32, false) : List UInt8 × UInt8 × Bool)) = List.replicate g 32 := by
  unfold txt
  induction g with
  | zero => rfl
  | succ g ih => simp only [List.replicate_succ, List.flatMap_cons]; rw [ih]; rfl
/-- A value that ends in a byte that counts, and blanks behind it. -/
theorem valueE_told {U : Us} (hU : ∀ u ∈ U, OkU u) (hne : U ≠ []) (hl : ∀ u, U.getLast? = some u → u.2.2 = true) (g : Nat) {s r : List UInt8} {n : Nat} (h : s.drop n = txt U ++ (List.replicate g 32 ++ r)) (hr : r = [] ∨ ∃ q, r = 44 :: q) :
    valueE s n = (n + (txt U).length + g, byt U, true) := by
  let B : Us := List.replicate g ([32], 32, false)
  have hB : ∀ u ∈ U ++ B, OkU u := by
    intro u hu
    rcases List.mem_append.1 hu with hu | hu
    · exact hU u hu
    · rw [List.eq_of_mem_replicate hu]; exact .inr (.inl ⟨rfl, rfl, rfl⟩)
  have htB : txt B = List.replicate g 32 := rep_txt g
  have htx : txt (U ++ B) = txt U ++ List.replicate g 32 := by rw [← htB]; simp [txt]
  have h2 : s.drop n = txt (U ++ B) ++ r := by rw [h, htx, List.append_assoc]
  have hlen := drop_len h2
  have hle := txt_len hB
  have he : eOf (U ++ B) 0 0 = U.length := by
    rw [eOf_app, eOf_blank]
    obtain ⟨V, u, rfl⟩ : ∃ V u, U = V ++ [u] := ⟨U.dropLast, U.getLast hne, (List.dropLast_concat_getLast hne).symm⟩
    have := hl u (by simp)
    rw [eOf_app]
    simp only [eOf, this, if_true, List.length_append, List.length_singleton]; omega
  have hd := drop_app h2
  have key : valE (s.length - n) s n [] 0 = (n + (txt (U ++ B)).length, some (byt (U ++ B), U.length)) := by
    rw [valE_units hB h2 (by omega), valE_end, List.nil_append, List.length_nil, he]
    rintro ⟨k1, k2⟩
    rcases hr with rfl | ⟨q, rfl⟩
    · have := congrArg List.length hd
      simp at this; omega
    · have := (getD_of_drop hd).2.1
      rw [this] at k2
      exact k2 rfl
  have hpos : 0 < U.length := List.length_pos_iff.2 hne
  rw [valueE_some key, htx]
  have hbl : (byt U).length = U.length := by simp [byt]
  have hby : byt (U ++ B) = byt U ++ byt B := by simp [byt]
  rw [hby, ← hbl, List.take_left, decide_eq_true (by omega)]
  simp
  omega
/-! ### parts -/
/-- A text is told as a part, wherever it stands. -/
def IsPt (t : List UInt8) (a : Ava) : Prop := t ≠ [] ∧ ∀ (s r : List UInt8) (n : Nat), s.drop n = t ++ r → (r = [] ∨ ∃ q, r = 44 :: q) → partE s n = (n + t.length, a, true)
theorem blk_rep (g : Nat) : ∀ c ∈ List.replicate g (32 : UInt8), blk c = true := fun c hc => by rw [List.eq_of_mem_replicate hc]; rfl
theorem typ_stops {c : UInt8} (h : typC c = true) : blk c = false := by
  have := (typC_iff c).1 h
  exact decide_eq_false (by omega)
theorem part_told (g1 g2 g3 g4 : Nat) (typ : List UInt8) {U : Us} (ht : typB typ = true) (hU : ∀ u ∈ U, OkU u) (hne : U ≠ []) (hl : ∀ u, U.getLast? = some u → u.2.2 = true) (hf : ∀ u, U.head? = some u → Stops blk u.1) :
    IsPt (List.replicate g1 32 ++ (typ ++ (List.replicate g2 32 ++ ([61] ++ (List.replicate g3 32 ++ (txt U ++ List.replicate g4 32)))))) ⟨typ, byt U⟩ := by
  have htt := (typB_iff typ).1 ht
  refine ⟨fun e => ?_, fun s r n h hr => ?_⟩
  · have := congrArg List.length e
    simp at this
  have h0 : s.drop n = List.replicate g1 32 ++ (typ ++ (List.replicate g2 32 ++ ([61] ++ (List.replicate g3 32 ++ (txt U ++ (List.replicate g4 32 ++ r)))))) := by rw [h]; simp
  obtain ⟨c0, q0, hc0⟩ : ∃ c q, typ = c :: q := by
    cases typ with
    | nil => simp at htt
    | cons c q => exact ⟨c, q, rfl⟩
  have hty : ∀ c ∈ typ, typC c = true := List.all_eq_true.1 htt.2
  have s1 : skipE blk s n = n + g1 := by
    have := skipE_app h0 (blk_rep g1) (.inr ⟨c0, _, by rw [hc0]; rfl, typ_stops (hty c0 (by rw [hc0]; simp))⟩)
    simpa using this
  have d1 := drop_app h0
  rw [List.length_replicate] at d1
  have hst : Stops typC (List.replicate g2 32 ++ ([61] ++ (List.replicate g3 32 ++ (txt U ++ (List.replicate g4 32 ++ r))))) := by
    cases g2 with
    | zero => exact .inr ⟨61, _, rfl, by decide⟩
    | succ g => exact .inr ⟨32, _, rfl, by decide⟩
  have s2 : kindE s n = n + g1 + typ.length := by unfold kindE; rw [s1]; exact skipE_app d1 hty hst
  have e2 : typE s n = typ := by unfold typE; rw [s1, s2]; exact take_seg d1
  have d2 := drop_app d1
  have s3 : eqE s n = n + g1 + typ.length + g2 := by
    unfold eqE; rw [s2]
    have := skipE_app d2 (blk_rep g2) (.inr ⟨61, _, rfl, by decide⟩)
    simpa using this
  have d3 := drop_app d2
  rw [List.length_replicate] at d3
  obtain ⟨k1, k2, k3⟩ := getD_of_drop (c := 61) (r := List.replicate g3 32 ++ (txt U ++ (List.replicate g4 32 ++ r))) d3
  obtain ⟨u0, U0, hu0⟩ : ∃ u V, U = u :: V := by
    cases U with
    | nil => exact absurd rfl hne
    | cons u V => exact ⟨u, V, rfl⟩
  have hfs : Stops blk (txt U ++ (List.replicate g4 32 ++ r)) := by
    have h1 := hf u0 (by rw [hu0]; rfl)
    have h2 := (hU u0 (by rw [hu0]; simp)).pos
    rcases h1 with h1 | ⟨c, q, h1, h3⟩
    · rw [h1] at h2; simp at h2
    · exact .inr ⟨c, _, by rw [hu0]; simp [txt, h1]; rfl, h3⟩
  have s4 : valP s n = n + g1 + typ.length + g2 + 1 + g3 := by
    unfold valP; rw [s3]
    have := skipE_app k3 (blk_rep g3) hfs
    simpa using this
  have d4 := drop_app k3
  rw [List.length_replicate] at d4
  have hv := valueE_told hU hne hl g4 d4 hr
  rw [partE_2 (by rw [e2]; exact ht) (by rw [s3]; exact ⟨k1, by rw [k2]; rfl⟩), s4, hv, e2]
  simp only [List.length_append, List.length_replicate, List.length_singleton, Prod.mk.injEq, and_true]
  omega
/-! ### all parts -/
def joinT : List (List UInt8 × Ava) → List UInt8
  | [] => []
  | p :: ps => p.1 ++ ps.flatMap fun q => 44 :: q.1
theorem partsE_told : ∀ (ps : List (List UInt8 × Ava)) (p : List UInt8 × Ava), (∀ q ∈ p :: ps, IsPt q.1 q.2) → ∀ (k : Nat) (s : List UInt8) (n : Nat) (l : List Ava), s.drop n = joinT (p :: ps) → ps.length + 1 ≤ k → partsE k s n l = some (l ++ (p :: ps).map (·.2))
  | [], p, hp, k, s, n, l, h, hk => by
    obtain ⟨k, rfl⟩ : ∃ j, k = j + 1 := ⟨k - 1, by omega⟩
    have h' : s.drop n = p.1 ++ [] := by rw [h]; simp [joinT]
    have hP := (hp p (by simp)).2 s [] n h' (.inl rfl)
    have hd := drop_app h'
    rw [partsE_last (by rw [hP]), hP]
    · simp
    · rw [hP]
      dsimp only
      rintro ⟨h1, _⟩
      have := congrArg List.length hd
      simp at this; omega
  | q :: ps, p, hp, k, s, n, l, h, hk => by
    obtain ⟨k, rfl⟩ : ∃ j, k = j + 1 := ⟨k - 1, by omega⟩
    have h' : s.drop n = p.1 ++ (44 :: joinT (q :: ps)) := by rw [h]; simp [joinT]
    have hP := (hp p (by simp)).2 s _ n h' (.inr ⟨_, rfl⟩)
    have hd := drop_app h'
    obtain ⟨k1, k2, k3⟩ := getD_of_drop hd
    rw [partsE_more (by rw [hP]) (by rw [hP]; dsimp only; exact ⟨by omega, by rw [k2]; rfl⟩), hP]
    dsimp only
    rw [partsE_told ps q (fun x hx => hp x (by simp [hx])) k s _ _ k3 (by simp at hk; omega)]
    simp
theorem parseE_told (p : List UInt8 × Ava) (ps : List (List UInt8 × Ava)) (hp : ∀ q ∈ p :: ps, IsPt q.1 q.2) (hi : isE ((p :: ps).map (·.2)) = true) : parseE (joinT (p :: ps)) = ((p :: ps).map (·.2), 0) := by
  have hne : joinT (p :: ps) ≠ [] := by
    intro e
    have := (hp p (by simp)).1
    unfold joinT at e
    exact this (List.append_eq_nil_iff.1 e).1
  have hlen : ps.length + 1 ≤ (joinT (p :: ps)).length + 1 := by
    unfold joinT
    have : ∀ ps : List (List UInt8 × Ava), ps.length ≤ (ps.flatMap fun q => 44 :: q.1).length := by
      intro ps
      induction ps with
      | nil => simp
      | cons q ps ih => simp only [List.flatMap_cons, List.length_append, List.length_cons]; omega
    have := this ps
    simp only [List.length_append]; omega
  exact parseE_some hne (partsE_told ps p hp _ _ 0 [] (by simp) hlen) hi
/-! ### what is printed -/
def unitT (v : List UInt8) (k : Nat) : List UInt8 × UInt8 × Bool := (tellC v k, v.getD k 0, decide (tellC v k ≠ [32]))
theorem hex_tab : ∀ n : Fin 16, b8 (hexI n.val) ∉ strk ∧ hexOk (b8 (hexI n.val)) = true ∧ hexV (b8 (hexI n.val)) = (n.val : Int) := by decide +kernel
theorem hex_at {n : Int} (h : 0 ≤ n ∧ n ≤ 15) : b8 (hexI n) ∉ strk ∧ hexOk (b8 (hexI n)) = true ∧ hexV (b8 (hexI n)) = n := by
  have := hex_tab ⟨n.toNat, by omega⟩
  simpa [show (n.toNat : Int) = n by omega] using this
theorem b8_eq {n : Int} {c : UInt8} (h : n = (c.toNat : Int)) : b8 n = c := by rw [h, b8_c]
theorem unitT_ok (v : List UInt8) (k : Nat) : OkU (unitT v k) := by
  have hc := (v.getD k 0).toNat_lt
  unfold unitT OkU
  dsimp only
  by_cases h1 : ((v.getD k 0).toNat : Int) < 32 ∨ 126 < ((v.getD k 0).toNat : Int)
  · right; right; right
    obtain ⟨a1, a2, a3⟩ := hex_at (n := ((v.getD k 0).toNat : Int) / 16) (by omega)
    obtain ⟨b1, b2, b3⟩ := hex_at (n := ((v.getD k 0).toNat : Int) % 16) (by omega)
    refine ⟨_, _, tellC_hexI h1, a1, a2, b2, ?_, by rw [tellC_hexI h1]; simp⟩
    rw [a3, b3]
    exact (b8_eq (by omega)).symm
  · by_cases h2 : 0 ≤ Lib.indexByte spc (v.getD k 0) ∨ ((k : Int) = 0 ∧ (((v.getD k 0).toNat : Int) = 35 ∨ ((v.getD k 0).toNat : Int) = 32)) ∨ ((k : Int) = (v.length : Int) - 1 ∧ ((v.getD k 0).toNat : Int) = 32)
    · right; right; left
      rw [tellC_str h1 h2]
      refine ⟨rfl, ?_, by simp⟩
      rcases h2 with h2 | ⟨_, h2 | h2⟩ | ⟨_, h2⟩
      · exact (by decide : ∀ c ∈ spc, c ∈ strk) _ ((indexByte_iff _ _).1 h2)
      · rw [show v.getD k 0 = 35 from UInt8.toNat_inj.1 (by show _ = 35; omega)]; decide
      · rw [show v.getD k 0 = 32 from UInt8.toNat_inj.1 (by show _ = 32; omega)]; decide
      · rw [show v.getD k 0 = 32 from UInt8.toNat_inj.1 (by show _ = 32; omega)]; decide
    · rw [tellC_one h1 h2]
      by_cases h3 : v.getD k 0 = 32
      · right; left
        rw [h3]; exact ⟨rfl, rfl, rfl⟩
      · left
        refine ⟨rfl, fun hh => h2 (.inl ((indexByte_iff _ _).2 hh)), h3, ?_⟩
        simpa using h3
def unitsT (v : List UInt8) : Us := (List.range v.length).map (unitT v)
theorem unitsT_txt (v : List UInt8) : txt (unitsT v) = tellE v := by
  unfold txt unitsT tellE tellR
  rw [List.flatMap_map]; rfl
theorem unitsT_byt (v : List UInt8) : byt (unitsT v) = v := by
  unfold byt unitsT
  rw [List.map_map]
  apply List.ext_getElem
  · simp
  · intro i h1 h2
    simp [unitT, List.getD_eq_getElem?_getD, List.getElem?_eq_getElem h2]
theorem unitsT_last {v : List UInt8} (u) (h : (unitsT v).getLast? = some u) : u.2.2 = true := by
  unfold unitsT at h
  rw [List.getLast?_map, List.getLast?_range] at h
  split at h
  · simp at h
  · simp only [Option.map_some, Option.some.injEq] at h
    subst h
    unfold unitT
    dsimp only
    rw [decide_eq_true_eq]
    intro e
    have hc := (v.getD (v.length - 1) 0).toNat_lt
    by_cases h1 : ((v.getD (v.length - 1) 0).toNat : Int) < 32 ∨ 126 < ((v.getD (v.length - 1) 0).toNat : Int)
    · rw [tellC_hexI h1] at e; simp at e
    · by_cases h3 : ((v.getD (v.length - 1) 0).toNat : Int) = 32
      · rw [tellC_str h1 (.inr (.inr ⟨by omega, h3⟩))] at e; simp at e
      · unfold tellC at e
        rw [if_neg h1] at e
        split at e
        · simp at e
        · simp only [List.cons.injEq, and_true] at e
          rw [e] at h3; exact h3 rfl
theorem unitsT_head {v : List UInt8} (u) (h : (unitsT v).head? = some u) : Stops blk u.1 := by
  unfold unitsT at h
  rw [List.head?_map, List.head?_range] at h
  split at h
  · simp at h
  · simp only [Option.map_some, Option.some.injEq] at h
    subst h
    unfold unitT
    dsimp only
    right
    by_cases h1 : ((v.getD 0 0).toNat : Int) < 32 ∨ 126 < ((v.getD 0 0).toNat : Int)
    · exact ⟨_, _, tellC_hexI h1, by decide⟩
    · by_cases h2 : 0 ≤ Lib.indexByte spc (v.getD 0 0) ∨ (((0 : Nat) : Int) = 0 ∧ (((v.getD 0 0).toNat : Int) = 35 ∨ ((v.getD 0 0).toNat : Int) = 32)) ∨ (((0 : Nat) : Int) = (v.length : Int) - 1 ∧ ((v.getD 0 0).toNat : Int) = 32)
      · exact ⟨_, _, tellC_str h1 h2, by decide⟩
      · exact ⟨_, _, tellC_one h1 h2, decide_eq_false (fun e => h2 (.inr (.inl ⟨rfl, .inr e⟩)))⟩
/-- A part's text, and the part. -/
def ptT (a : Ava) : List UInt8 := a.typ ++ ([61] ++ tellE a.val)
theorem okA_parts {a : Ava} (h : okA a = true) : typB a.typ = true ∧ a.val ≠ [] ∧ a.val.length ≤ 64 := by
  have := (okA_iff a).1 h
  refine ⟨this.1.1, fun e => ?_, by omega⟩
  rw [e] at this; simp at this
theorem unitsT_ne {v : List UInt8} (h : v ≠ []) : unitsT v ≠ [] := by
  intro e
  have := congrArg List.length e
  simp [unitsT] at this
  exact h (List.eq_nil_of_length_eq_zero (by simpa using this))
theorem unitsT_mem {v : List UInt8} : ∀ u ∈ unitsT v, OkU u := by
  intro u hu
  unfold unitsT at hu
  obtain ⟨k, _, rfl⟩ := List.mem_map.1 hu
  exact unitT_ok v k
theorem ptT_gap {a : Ava} (h : okA a = true) (g1 g4 : Nat) : IsPt (List.replicate g1 32 ++ (ptT a ++ List.replicate g4 32)) a := by
  obtain ⟨h1, h2, h3⟩ := okA_parts h
  have := part_told g1 0 0 g4 a.typ h1 unitsT_mem (unitsT_ne h2) unitsT_last unitsT_head
  rw [unitsT_txt, unitsT_byt] at this
  unfold ptT
  simpa using this
theorem ptT_is {a : Ava} (h : okA a = true) : IsPt (ptT a) a := by simpa using ptT_gap h 0 0
theorem flat_getD : ∀ (l : List Ava) (g : Ava → List UInt8), ((List.range l.length).flatMap fun i => g (l.getD i default)) = l.flatMap g
  | [], g => rfl
  | a :: l, g => by
    rw [List.length_cons, List.range_succ_eq_map, List.flatMap_cons, List.flatMap_map, List.flatMap_cons]
    have := flat_getD l g
    rw [← this]; rfl
theorem printE_cons (a : Ava) (l : List Ava) : printE (a :: l) = joinT ((a :: l).map fun x => (ptT x, x)) := by
  unfold printE printR joinT
  rw [List.length_cons, List.range_succ_eq_map, List.flatMap_cons, List.flatMap_map]
  have h0 : printC (a :: l) 0 = ptT a := by unfold printC ptT; simp
  have h1 : ∀ i, printC (a :: l) (i + 1) = 44 :: ptT (l.getD i default) := by
    intro i
    unfold printC ptT
    rw [if_pos (by omega)]
    simp
  rw [h0]
  congr 1
  have h2 : ((List.range l.length).flatMap fun i => printC (a :: l) (i + 1)) = (List.range l.length).flatMap fun i => (fun x => 44 :: ptT x) (l.getD i default) := by
    congr 1; funext i; exact h1 i
  show ((List.range l.length).flatMap fun i => printC (a :: l) (i + 1)) = _
  rw [h2, flat_getD l (fun x => 44 :: ptT x)]
  simp [List.flatMap_map]
theorem isE_all {l : List Ava} (h : isE l = true) : l.length ≤ 12 ∧ ∀ a ∈ l, okA a = true := by
  simp only [isE, Bool.and_eq_true, decide_eq_true_eq] at h
  exact ⟨by omega, List.all_eq_true.1 h.2⟩
theorem parse_print {l : List Ava} (h : isE l = true) : parseE (printE l) = (l, 0) := by
  cases l with
  | nil => rfl
  | cons a l =>
    have hm : ((a :: l).map fun x => (ptT x, x)).map (·.2) = a :: l := by rw [List.map_map]; exact List.map_id' _
    have := parseE_told (ptT a, a) (l.map fun x => (ptT x, x)) (by
      intro q hq
      have hq' : q ∈ (a :: l).map fun x => (ptT x, x) := hq
      obtain ⟨x, hx, rfl⟩ := List.mem_map.1 hq'
      exact ptT_is ((isE_all h).2 x hx)) (by
      have e : (((ptT a, a) :: l.map fun x => (ptT x, x)).map (·.2)) = a :: l := hm
      rw [e]; exact h)
    rw [printE_cons]
    have e : (((ptT a, a) :: l.map fun x => (ptT x, x)).map (·.2)) = a :: l := hm
    rw [e] at this
    exact this
end Go.Dn
