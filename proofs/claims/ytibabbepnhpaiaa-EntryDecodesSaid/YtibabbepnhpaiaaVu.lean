/-
  Arguments that are bytes: the list of bytes that a row of numbers stands for. Nothing here speaks of a program; no conditions.
-/
import Derived.Test.YtibabbepnhpaiaaVt
set_option linter.unusedVariables false
namespace Go.Vk
/-- The bytes of a row of numbers. -/
def bytesOf (zs : List Int) : List UInt8 := zs.map b8
theorem arg_u8 {G : Imm} {n : Int} (h : (Lit.int .u8 n).wf = true) : (okI .u8 ((b8 n).toNat : Int)).p G (.int .u8 n) := by
  have := wf_u8 h
  show Value.int .u8 n = .int .u8 _
  rw [b8_of (by omega)]
theorem arg_bytes {w : World} {a : Option Addr} {len cap : Nat} {zs : List Int} (h : (a = none ∧ len = 0 ∧ cap = 0 ∧ zs = []) ∨
    ∃ x, a = some x ∧ len ≤ cap ∧ cap ≤ maxLen ∧ zs.length = cap ∧ (∀ i, i < zs.length → w.cell? (x.add i) = some (.int .u8 (zs.getD i 0))) ∧ ∀ n ∈ zs, (Lit.int .u8 n).wf = true) : (TBytes (bytesOf (zs.take len))).p (heapImm w) (.slice a len cap) := by
  rcases h with ⟨rfl, rfl, rfl, rfl⟩ | ⟨x, rfl, hl, hm, hz, hc, hw⟩
  · exact TSlX.sl (nil_sl 1 cB _)
  · have hlen : (bytesOf (zs.take len)).length = len := by simp [bytesOf]; omega
    refine ⟨some x, cap, by rw [hlen], by omega, hm, (fun e => by cases e), (fun e => by cases e), fun ad e => ?_⟩
    cases e
    by_cases h0 : zs.length = 0
    · exact ⟨fun hp => by omega, fun i y hy => by have := (List.getElem?_eq_some_iff.1 hy).1; omega⟩
    · have hspot : x.spot = none := by
        have := hc 0 (by omega)
        simpa [Addr.add] using World.cell?_spot this
      refine ⟨fun _ => hspot, fun i y hy => ?_⟩
      have hi : i < len := by have := (List.getElem?_eq_some_iff.1 hy).1; omega
      refine ⟨rfl, fun j T hj => ?_⟩
      cases j with
      | succ j => simp [cB] at hj
      | zero =>
        simp only [cB, List.getElem?_cons_zero, Option.some.injEq] at hj
        subst hj
        have hzi : zs[i]? = some (zs.getD i 0) := by
          rw [List.getD_eq_getElem?_getD, List.getElem?_eq_getElem (by omega)]; rfl
        have hy' : y = b8 (zs.getD i 0) := by
          simp only [bytesOf, List.getElem?_map, List.getElem?_take, hi, if_true, hzi, Option.map_some, Option.some.injEq] at hy
          exact hy.symm
        have hwf := wf_u8 (hw _ (List.mem_of_getElem? hzi))
        refine ⟨.int .u8 (zs.getD i 0), ?_, ?_, rfl⟩
        · have := hc i (by omega)
          obtain ⟨b, o, sp⟩ := x
          simp only at hspot; subst hspot
          show w.cell? _ = _
          rw [← this]
          unfold Addr.add
          split
          · subst i; simp
          · simp
        · show Value.int .u8 _ = .int .u8 _
          rw [hy', b8_of (by omega)]
end Go.Vk
