/-
  The contracts of the document's further functions on names: a name as a text, what does not count, what is above.
-/
import Derived.Test.YtibabbepnhpaiaaDR
import Derived.Test.YtibabbepnhpaiaaD8
set_option linter.unusedVariables false
namespace Go.Dn
open Go.Vk
def hexI (n : Int) : Int := if n < 10 then 48 + n else 97 + n - 10
theorem hexI_D : ∀ n : Fin 16, (hexD.take ((n.val : Int) + 1).toNat).drop (n.val : Int).toNat = [b8 (hexI n.val)] := by decide +kernel
theorem hexI_at {n : Int} (h : 0 ≤ n ∧ n ≤ 15) : (hexD.take (n + 1).toNat).drop n.toNat = [b8 (hexI n)] := by
  have := hexI_D ⟨n.toNat, by omega⟩
  simpa [show (n.toNat : Int) = n by omega] using this
theorem hexI_bd {n : Int} (h : 0 ≤ n ∧ n ≤ 15) : 0 ≤ hexI n ∧ hexI n < 256 := by unfold hexI; split <;> omega
theorem tellC_hexI {v : List UInt8} {k : Nat} (h : ((v.getD k 0).toNat : Int) < 32 ∨ 126 < ((v.getD k 0).toNat : Int)) : tellC v k = [b8 92, b8 (hexI (((v.getD k 0).toNat : Int) / 16)), b8 (hexI (((v.getD k 0).toNat : Int) % 16))] := by
  have hc := (v.getD k 0).toNat_lt
  rw [tellC_hex h, hexI_at (by omega), hexI_at (by omega)]
  rfl
theorem lowC_32 (c : UInt8) : ((lowC c).toNat : Int) = 32 ↔ (c.toNat : Int) = 32 := by
  unfold lowC
  split
  · rw [b8_of (by omega)]; omega
  · exact Iff.rfl
theorem lowC_val {c : UInt8} (h : 65 ≤ (c.toNat : Int) ∧ (c.toNat : Int) ≤ 90) : ((lowC c).toNat : Int) = (c.toNat : Int) + 32 := by
  rw [lowC_up h, b8_of (by omega)]
theorem in35 (c : UInt8) : 0 ≤ Lib.indexByte [35, 32] c ↔ (c.toNat : Int) = 35 ∨ (c.toNat : Int) = 32 := by
  rw [indexByte_iff]
  simp only [List.mem_cons, List.not_mem_nil, or_false]
  constructor
  · rintro (h | h) <;> subst h
    · exact .inl rfl
    · exact .inr rfl
  · rintro (h | h)
    · exact .inl (UInt8.toNat_inj.1 (by show c.toNat = 35; omega))
    · exact .inr (UInt8.toNat_inj.1 (by show c.toNat = 32; omega))
end Go.Dn
set_option linter.unusedVariables false
namespace Go.Proofs.Ytibabbepnhpaiaa
open Go.Vk
attribute [local irreducible] HT HX RegS RegA RegM OpP OpC AltT
attribute [local irreducible] Dn.tellR Dn.tellC Dn.tellE Dn.printR Dn.printC Dn.printE Dn.foldR Dn.foldE Dn.normE Dn.normA Dn.sameE Dn.underE
set_option maxHeartbeats 2000000 in
theorem rfFold (s : List UInt8) (hs : s.length ≤ 134217728) : CFn Try.prog 39 [Is (str s)] (Is (str (Dn.foldE s))) := by
  refine CallsC.of Try.call39 Try.func39 rfl Try.ntmps39 rfl fun w0 G0 S0 hs ho => ?_
  refine run ?_
  refine HT.loopX (σ := Nat × Value) [0, 2] (fun t => [(3, TAnd (Is t.2) (TBytes (Dn.foldR (s.take t.1)))), (4, okI .i64 (t.1 : Int))]) (fun t => [ownSl t.2 1 5]) (fun t => t.1 ≤ s.length) (fun t => s.length - t.1) (0, .slice none 0 0) (Nat.zero_le _) (run trivial) (run ?_) ?_
  · unfold Dn.foldR; rfl
  rintro ⟨i, v⟩ hi
  dsimp only at hi ⊢
  have hl := Dn.foldR_len (s.take i)
  have hl2 : (s.take i).length = i := by rw [List.length_take]; omega
  refine run ?_
  and_intros
  all_goals intros
  all_goals (try simp only [Dn.lastB_at] at *)
  all_goals (first
    | (rename_i h1 h2
       have h3 := Dn.lowC_val h1
       refine HX.roundX (i + 1, _) ⟨by dsimp only; omega, by dsimp only; omega⟩ rfl (run trivial) (run ?_)
       rw [Dn.foldR_put (by omega) (by omega), Dn.lowC_up h1])
    | (rename_i h1 h2
       refine HX.roundX (i + 1, _) ⟨by dsimp only; omega, by dsimp only; omega⟩ rfl (run trivial) (run ?_)
       rw [Dn.foldR_skip (by omega) h2]
       done)
    | (rename_i h1 h2
       refine HX.roundX (i + 1, _) ⟨by dsimp only; omega, by dsimp only; omega⟩ rfl (run trivial) (run ?_)
       rw [Dn.foldR_put (by omega) (by omega), Dn.lowC_no (Dn.nand (by assumption))])
    | (rename_i h1
       rw [List.take_of_length_le (show s.length ≤ i by omega)] at *
       rw [Dn.foldE_cut h1, subN1]
       done)
    | (rename_i h1
       rw [List.take_of_length_le (show s.length ≤ i by omega)] at *
       rw [Dn.foldE_all h1]
       done))
end Go.Proofs.Ytibabbepnhpaiaa
