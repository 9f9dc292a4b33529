/-
  Entries out of bytes: the plain functions. Nothing here speaks of a program; no conditions.
-/
import Derived.Test.YtibabbepnhpaiaaN0
import Derived.Test.YtibabbepnhpaiaaO4
set_option linter.unusedVariables false
namespace Go.En
open Go.Vk Go.Oct
open Go.Dn (Ava cAva typB isE okA)
def stepA (s : RS) : Ava × RS := (⟨bytV s.1, bytV (bytT s.1)⟩, (bytT (bytT s.1), bytE (bytT s.1) (bytE s.1 s.2)))
theorem eatsA : Eats stepA badS lenS := ⟨fun s _ => by
  cases h : bytE (bytT s.1) (bytE s.1 s.2) with
  | true => exact .inl h
  | false =>
    right
    have h2 : bytE s.1 s.2 = false := by
      cases h3 : bytE s.1 s.2 with
      | false => rfl
      | true => rw [h3, bytE_true] at h; cases h
    exact Nat.lt_of_le_of_lt (bytT_le _) (bytT_lt h2)⟩
theorem rows_le {σ α : Type} {step : σ → α × σ} {bad : σ → Bool} {m : σ → Nat} (hle : ∀ s, m (step s).2 ≤ m s) {n : Int} : ∀ (k : Nat) (acc : List α) (s : σ), m (loopD step bad n k acc s).2 ≤ m s
  | 0, acc, s => Nat.le_refl _
  | k + 1, acc, s => by
    rw [loopD]
    split
    · exact Nat.le_trans (rows_le hle k _ _) (hle s)
    · exact Nat.le_refl _
def hdT (s : RS) : RS := (bytT s.1, bytE s.1 s.2)
def nmT (s : RS) : RS := (numT s.1, numE s.1 s.2)
def stepT (s : RS) : Attr × RS := (⟨bytV s.1, (rows stepB badS lenS (numV (hdT s).1) [] (nmT (hdT s))).1⟩, (rows stepB badS lenS (numV (hdT s).1) [] (nmT (hdT s))).2)
theorem eatsT : Eats stepT badS lenS := ⟨fun s _ => by
  cases h : badS (stepT s).2 with
  | true => exact .inl rfl
  | false =>
    right
    have hle : lenS (stepT s).2 ≤ lenS (nmT (hdT s)) := rows_le (fun s => bytT_le s.1) _ _ _
    have hb : badS (nmT (hdT s)) = false := by
      cases h3 : badS (nmT (hdT s)) with
      | false => rfl
      | true =>
        unfold stepT at h
        rw [rows_end2 h3] at h
        exact (by rw [h3] at h; cases h)
    have h2 : bytE s.1 s.2 = false := by
      cases h3 : bytE s.1 s.2 with
      | false => rfl
      | true =>
        unfold badS nmT hdT at hb
        dsimp only at hb
        rw [h3, numE_true] at hb; cases hb
    have := bytT_lt h2
    have h4 : lenS (nmT (hdT s)) ≤ (bytT s.1).length := numT_len _
    unfold lenS at hle h4 ⊢
    omega⟩
/-- Bytes as an entry: what is read, how the reader stands behind it. -/
def dec1 (s : List UInt8) : List Ava × RS := rows stepA badS lenS (numV s) [] (nmT (s, false))
def dec (s : List UInt8) : List Attr × RS := rows stepT badS lenS (numV (dec1 s).2.1) [] (nmT (dec1 s).2)
def decN (s : List UInt8) : Entry := ⟨(dec1 s).1, (dec s).1⟩
theorem rows_all {σ α : Type} {step : σ → α × σ} {bad : σ → Bool} {m : σ → Nat} {Q : α → Prop} {n0 : Nat} (h : ∀ s, m s ≤ n0 → Q (step s).1 ∧ m (step s).2 ≤ n0) {n : Int} : ∀ (k : Nat) (acc : List α) (s : σ), m s ≤ n0 → (∀ a ∈ acc, Q a) → ∀ a ∈ (loopD step bad n k acc s).1, Q a
  | 0, acc, s, _, ha => ha
  | k + 1, acc, s, hs, ha => by
    rw [loopD]
    split
    · refine rows_all h k _ _ (h s hs).2 fun a hm => ?_
      rcases List.mem_append.1 hm with hm | hm
      · exact ha a hm
      · simp at hm; subst hm; exact (h s hs).1
    · exact ha
theorem rows_count {σ α : Type} {step : σ → α × σ} {bad : σ → Bool} {n : Int} : ∀ (k : Nat) (acc : List α) (s : σ), (loopD step bad n k acc s).1.length ≤ acc.length + k
  | 0, acc, s => Nat.le_refl _
  | k + 1, acc, s => by
    rw [loopD]
    split
    · have := rows_count (step := step) (bad := bad) (n := n) k (acc ++ [(step s).1]) (step s).2
      simp only [List.length_append, List.length_cons, List.length_nil] at this
      omega
    · show acc.length ≤ _
      omega
theorem stepT_le (s : RS) : lenS (stepT s).2 ≤ lenS s := by
  have hle : lenS (stepT s).2 ≤ lenS (nmT (hdT s)) := rows_le (fun s => bytT_le s.1) _ _ _
  have h4 : lenS (nmT (hdT s)) ≤ (bytT s.1).length := numT_len _
  have h5 := bytT_le s.1
  unfold lenS at *
  omega
theorem stepA_le (s : RS) : lenS (stepA s).2 ≤ lenS s := Nat.le_trans (bytT_le _) (bytT_le s.1)
theorem dec1_len (s : List UInt8) : lenS (dec1 s).2 ≤ s.length := Nat.le_trans (rows_le stepA_le _ _ _) (numT_len s)
theorem decN_sane {s : List UInt8} (h : s.length ≤ 1000000) : sane (decN s) := by
  have h0 := numT_len s
  refine ⟨?_, fun a ha => ?_, ?_, fun a ha => ?_⟩
  · have := rows_count (step := stepA) (bad := badS) (n := numV s) (lenS (nmT (s, false)) + 1) [] (nmT (s, false))
    have h1 : lenS (nmT (s, false)) ≤ s.length := h0
    have e : (decN s).dn.length = (loopD stepA badS (numV s) (lenS (nmT (s, false)) + 1) [] (nmT (s, false))).1.length := rfl
    simp only [List.length_nil] at this
    omega
  · have := rows_all (step := stepA) (bad := badS) (m := lenS) (Q := fun a : Ava => a.typ.length ≤ 1152921504606846976) (n0 := 1000000) (fun s hs => ⟨by have := bytV_le s.1; have h2 : s.1.length ≤ 1000000 := hs; show (bytV s.1).length ≤ _; omega, Nat.le_trans (stepA_le s) hs⟩) (n := numV s) (lenS (nmT (s, false)) + 1) [] (nmT (s, false)) (Nat.le_trans h0 h) (fun a ha => by simp at ha) a ha
    exact this
  · have := rows_count (step := stepT) (bad := badS) (n := numV (dec1 s).2.1) (lenS (nmT (dec1 s).2) + 1) [] (nmT (dec1 s).2)
    have h1 : lenS (nmT (dec1 s).2) ≤ (dec1 s).2.1.length := numT_len _
    have h2 : (dec1 s).2.1.length ≤ s.length := dec1_len s
    have e : (decN s).attrs.length = (loopD stepT badS (numV (dec1 s).2.1) (lenS (nmT (dec1 s).2) + 1) [] (nmT (dec1 s).2)).1.length := rfl
    simp only [List.length_nil] at this
    omega
  · have h1 : lenS (nmT (dec1 s).2) ≤ (dec1 s).2.1.length := numT_len _
    have h2 : (dec1 s).2.1.length ≤ s.length := dec1_len s
    have := rows_all (step := stepT) (bad := badS) (m := lenS) (Q := fun a : Attr => a.typ.length ≤ 1152921504606846976 ∧ a.vals.length ≤ 1152921504606846976) (n0 := 1000000) (fun s hs => ⟨by
      have h3 := bytV_le s.1
      have h4 : s.1.length ≤ 1000000 := hs
      have h5 := rows_count (step := stepB) (bad := badS) (n := numV (hdT s).1) (lenS (nmT (hdT s)) + 1) [] (nmT (hdT s))
      have h6 : lenS (nmT (hdT s)) ≤ (bytT s.1).length := numT_len _
      have h7 := bytT_le s.1
      refine ⟨show (bytV s.1).length ≤ _ by omega, ?_⟩
      have e : (stepT s).1.vals.length = (loopD stepB badS (numV (hdT s).1) (lenS (nmT (hdT s)) + 1) [] (nmT (hdT s))).1.length := rfl
      simp only [List.length_nil] at h5
      omega, Nat.le_trans (stepT_le s) hs⟩) (n := numV (dec1 s).2.1) (lenS (nmT (dec1 s).2) + 1) [] (nmT (dec1 s).2) (by omega) (fun a ha => by simp at ha) a ha
    exact this
theorem stepB_back (l r : List UInt8) (h : l.length ≤ 4611686018427387904) : stepB (bytB l ++ r, false) = (l, (r, false)) := by
  obtain ⟨h1, h2, h3⟩ := byt_bytB h r
  unfold stepB
  dsimp only
  rw [h1, h2, h3]
theorem stepA_back (a : Ava) (r : List UInt8) (h : a.typ.length ≤ 4611686018427387904 ∧ a.val.length ≤ 4611686018427387904) : stepA (avaB a ++ r, false) = (a, (r, false)) := by
  obtain ⟨h1, h2, h3⟩ := byt_bytB h.1 (bytB a.val ++ r)
  obtain ⟨k1, k2, k3⟩ := byt_bytB h.2 r
  unfold stepA avaB
  dsimp only
  rw [List.append_assoc, h1, h2, h3, k1, k2, k3]
theorem stepT_back (a : Attr) (r : List UInt8) (h : a.typ.length ≤ 4611686018427387904 ∧ a.vals.length ≤ 4611686018427387904 ∧ ∀ v ∈ a.vals, v.length ≤ 4611686018427387904) : stepT (attrB a ++ r, false) = (a, (r, false)) := by
  obtain ⟨h1, h2, h3⟩ := byt_bytB h.1 (numB a.vals.length ++ (a.vals.flatMap bytB ++ r))
  obtain ⟨k1, k2, k3⟩ := num_numB h.2.1 (a.vals.flatMap bytB ++ r)
  have e1 : attrB a ++ r = bytB a.typ ++ (numB a.vals.length ++ (a.vals.flatMap bytB ++ r)) := by unfold attrB; simp only [List.append_assoc]
  have e2 : hdT (attrB a ++ r, false) = (numB a.vals.length ++ (a.vals.flatMap bytB ++ r), false) := by unfold hdT; dsimp only; rw [e1, h2, h3]
  have e3 : nmT (hdT (attrB a ++ r, false)) = (a.vals.flatMap bytB ++ r, false) := by rw [e2]; unfold nmT; dsimp only; rw [k2, k3]
  have e4 := rows_back eatsB bytB (fun l => (l, false)) (fun _ => rfl) a.vals [] r (a.vals.length : Int) (fun x hx r => stepB_back x r (h.2.2 x hx)) (by simp)
  unfold stepT
  rw [e3, e2]
  dsimp only
  rw [k1, e4, e1, h1]
  simp
theorem dec_back {e : Entry} (h : isN e = true) : decN (encB e) = e ∧ (dec (encB e)).2 = ([], false) := by
  obtain ⟨b1, b2, b3, b4⟩ := isN_bd h
  obtain ⟨k1, k2, k3⟩ := num_numB (n := e.dn.length) (by omega) (e.dn.flatMap avaB ++ (numB e.attrs.length ++ (e.attrs.flatMap attrB ++ [])))
  obtain ⟨l1, l2, l3⟩ := num_numB (n := e.attrs.length) (by omega) (e.attrs.flatMap attrB ++ [])
  have e1 : encB e = numB e.dn.length ++ (e.dn.flatMap avaB ++ (numB e.attrs.length ++ (e.attrs.flatMap attrB ++ []))) := by unfold encB; simp only [List.append_assoc, List.append_nil]
  have r1 := rows_back eatsA avaB (fun l => (l, false)) (fun _ => rfl) e.dn [] (numB e.attrs.length ++ (e.attrs.flatMap attrB ++ [])) (e.dn.length : Int) (fun x hx r => stepA_back x r (by have := b2 x hx; omega)) (by simp)
  have d1 : dec1 (encB e) = (e.dn, (numB e.attrs.length ++ (e.attrs.flatMap attrB ++ []), false)) := by
    unfold dec1 nmT
    dsimp only
    rw [e1, k1, k2, k3, r1]
    simp
  have r2 := rows_back eatsT attrB (fun l => (l, false)) (fun _ => rfl) e.attrs [] [] (e.attrs.length : Int) (fun x hx r => stepT_back x r (by obtain ⟨c1, c2, c3⟩ := b4 x hx; exact ⟨by omega, by omega, fun v hv => by have := c3 v hv; omega⟩)) (by simp)
  have d2 : dec (encB e) = (e.attrs, ([], false)) := by
    unfold dec nmT
    rw [d1]
    dsimp only
    rw [l1, l2, l3, r2]
    simp
  refine ⟨?_, by rw [d2]⟩
  unfold decN
  rw [d1, d2]
/-- What is told of bytes. -/
def okD (s : List UInt8) : Bool := isN (decN s) && decide (encB (decN s) = s)
theorem okD_good {s : List UInt8} (h : okD s = true) : (dec s).2 = ([], false) := by
  unfold okD at h
  simp only [Bool.and_eq_true, decide_eq_true_eq] at h
  have := (dec_back h.1).2
  rwa [h.2] at this
def empE : Entry := ⟨[], []⟩
end Go.En
