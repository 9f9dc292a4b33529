/-
  Requests as arguments, with their bulk; the contract of the law MsgEncodes.
  A message that is cut short, and one with something behind: the plain law, the contract of the law MsgCuts.
  Requests that come in pieces: plain. Nothing here speaks of a program; no conditions.
  The contract of the law SessPieces.
  Requests in a row as an argument, with their bulk; the law SessPieces, of arguments of bounded bulk.
-/
import Derived.Test.YtkpghepeagafoaaGreatJav
import Derived.Test.YtkpghepeagafoaaGreatJau
set_option linter.unusedSimpArgs false
set_option linter.unusedVariables false
set_option linter.unusedVariables false
namespace Go.Ms
open Go.Vk
open Go.Fi (Fil)
def blS (s : List UInt8) : Nat := s.length + 1
def bM (m : Mod) : Nat := m.typ.length + sm blS m.vals + 4
def bA (a : En.Attr) : Nat := a.typ.length + sm blS a.vals + 3
mutual
/-- How much a filter holds. -/
def bF : Fil → Nat
  | .mk _ t v s ks => t.length + v.length + sm blS s + bFs ks + 6
def bFs : List Fil → Nat
  | [] => 0
  | f :: r => bF f + bFs r
end
theorem bFs_sm : ∀ l : List Fil, bFs l = sm bF l
  | [] => by unfold bFs; rfl
  | f :: r => by rw [sm_cons, ← bFs_sm r]; conv => lhs; unfold bFs
mutual
theorem wF_bF : ∀ f : Fil, wF f ≤ 20 * bF f
  | .mk k t v s ks => by
    have h1 := wFs_bFs ks
    have h2 : sm wV s ≤ 10 * sm blS s := sm_mul (fun a => by unfold wV blS; omega) s
    unfold wF bF wVs
    omega
theorem wFs_bFs : ∀ l : List Fil, wFs l ≤ 20 * bFs l
  | [] => by unfold wFs; omega
  | f :: r => by
    have h1 := wF_bF f
    have h2 := wFs_bFs r
    unfold wFs bFs; omega
end
def bR (r : Req) : Nat := r.dn.length + r.pass.length + bF r.fil + sm blS r.want + sm bM r.mods + sm bA r.attrs + r.rdn.length + r.up.length + r.avaT.length + r.avaV.length
/-- What the numbers of a request are. -/
def Okz (r : Req) : Prop := okK r.num ∧ okK r.kind ∧ okK r.scope ∧ okK r.limit ∧ okK r.which ∧ ∀ m ∈ r.mods, okK m.kind
theorem okq_of {r : Req} (h : Okz r) (hb : bR r ≤ 1048576) : Okq r := by
  obtain ⟨z1, z2, z3, z4, z5, z6⟩ := h
  have h1 := wF_bF r.fil
  have h2 : sm wV r.want ≤ 10 * sm blS r.want := sm_mul (fun a => by unfold wV blS; omega) _
  have h3 : sm wM r.mods ≤ 20 * sm bM r.mods := sm_mul (fun m => by
    have : sm wV m.vals ≤ 10 * sm blS m.vals := sm_mul (fun a => by unfold wV blS; omega) _
    unfold wM wAt wVs bM; omega) _
  have h4 : sm wA r.attrs ≤ 20 * sm bA r.attrs := sm_mul (fun m => by
    have : sm wV m.vals ≤ 10 * sm blS m.vals := sm_mul (fun a => by unfold wV blS; omega) _
    unfold wA wAt wVs bA; omega) _
  unfold bR at hb
  exact ⟨z1, z2, z3, z4, z5, by omega, by omega, by omega, by omega, by omega, by omega, by omega, by omega, by omega, by omega, z6⟩
theorem sum_sm {α : Type} (f : α → Nat) (l : List α) : (l.map f).sum = sm f l := rfl
end Go.Ms
set_option maxRecDepth 8000
set_option linter.unusedVariables false
namespace Go.Proofs.YtkpghepeagafoaaGreat
open Go.Vk
attribute [local irreducible] HT HX RegS RegA RegM OpP OpC AltT
attribute [local irreducible] Ber.tagB Ber.lenB Ber.intB Ms.textB Ms.wV Ms.wF Ms.filB Ms.piecesB Ms.tagF Fi.isF Fi.wt Ms.wM Ms.wA Ms.textsB Ms.modsB Ms.attrsB Ms.opB Ms.isR Ms.reqB Ms.heavyB
theorem cF_size25 (f : Fi.Fil) : (Fi.cF f).length = 5 := rfl
theorem wf_okK {n : Int} (h : (Lit.int .i64 n).wf = true) : Ms.okK n := wf_i64 h
theorem opnFilU : ∀ N : Nat, OpnU N Tryz.prog 43 Fi.cF (fun _ => True) Ms.bF
  | 0 => OpnU.nought (fun a => by rw [cF_size25]; kernel_rfl) Tryz.underlying43
  | N + 1 => by
    have IH := opnFilU N
    have hsub := OpnU.slice (OpnU.str (N := N) (P := Tryz.prog) Tryz.underlying9 (by kernel_rfl)) Tryz.underlying40 (by kernel_rfl) (by kernel_rfl)
    have hkid := OpnU.slice IH Tryz.underlying41 (by kernel_rfl) (by kernel_rfl)
    rw [show Tryz.prog.cellsOf 43 = 5 by kernel_rfl] at hkid
    rw [show Tryz.prog.cellsOf 9 = 1 by kernel_rfl] at hsub
    have H := OpnU.struct (N := N) Tryz.underlying43 (by kernel_rfl) (OpnFU.cons rfl (OpnU.int Tryz.underlying3 (by kernel_rfl)) (OpnFU.cons rfl (OpnU.str Tryz.underlying9 (by kernel_rfl)) (OpnFU.cons rfl (OpnU.str Tryz.underlying9 (by kernel_rfl)) (OpnFU.cons rfl (hsub.less (Nat.le_succ N)) (OpnFU.cons rfl (hkid.less (Nat.le_succ N)) (OpnFU.nil _))))))
    refine H.map (fun p => .mk p.1 p.2.1 p.2.2.1 p.2.2.2.1 p.2.2.2.2.1) (fun a => by rw [cF_size25]; kernel_rfl) (fun p => ?_) (fun p h => trivial) (fun p => ?_)
    · have e : ∀ (k : Int) (t v : List UInt8) (s : List (List UInt8)) (ks : List Fi.Fil), Fi.cF (.mk k t v s ks) = [okI .i64 k, Is (str t), Is (str v), TSl 1 Fi.cS s, TSl 5 Fi.cFil ks] := fun _ _ _ _ _ => rfl
      rw [e, Fi.cF_eq]; rfl
    · unfold Ms.bF
      rw [Ms.bFs_sm]
      have e : Ms.sm Ms.blS p.2.2.2.1 = (p.2.2.2.1.map (fun l => l.length + 1)).sum := rfl
      have e2 : Ms.sm Ms.bF p.2.2.2.2.1 = (p.2.2.2.2.1.map Ms.bF).sum := rfl
      omega
theorem opnModU (N : Nat) : OpnU (N + 2) Tryz.prog 110 Ms.cMod (fun m => Ms.okK m.kind) Ms.bM := by
  have h := OpnU.slice (OpnU.str (N := N) (P := Tryz.prog) Tryz.underlying9 (by kernel_rfl)) Tryz.underlying40 (by kernel_rfl) (by kernel_rfl)
  rw [show Tryz.prog.cellsOf 9 = 1 by kernel_rfl] at h
  exact (OpnU.struct (N := N + 1) Tryz.underlying110 (by kernel_rfl) (OpnFU.cons rfl (OpnU.int Tryz.underlying3 (by kernel_rfl)) (OpnFU.cons rfl (OpnU.str Tryz.underlying9 (by kernel_rfl)) (OpnFU.cons rfl h (OpnFU.nil _))))).map
    (fun p => ⟨p.1, p.2.1, p.2.2.1⟩) (fun a => by kernel_rfl) (fun p => rfl) (fun p h => wf_okK h.1) (fun p => by
      have e : Ms.sm Ms.blS p.2.2.1 = (p.2.2.1.map (fun l => l.length + 1)).sum := rfl
      unfold Ms.bM
      dsimp only
      omega)
theorem opnAttrU25 (N : Nat) : OpnU (N + 2) Tryz.prog 112 En.cAttr (fun _ => True) Ms.bA := by
  have h := OpnU.slice (OpnU.str (N := N) (P := Tryz.prog) Tryz.underlying9 (by kernel_rfl)) Tryz.underlying40 (by kernel_rfl) (by kernel_rfl)
  rw [show Tryz.prog.cellsOf 9 = 1 by kernel_rfl] at h
  exact (OpnU.struct (N := N + 1) Tryz.underlying112 (by kernel_rfl) (OpnFU.cons rfl (OpnU.str Tryz.underlying9 (by kernel_rfl)) (OpnFU.cons rfl h (OpnFU.nil _)))).map
    (fun p => ⟨p.1, p.2.1⟩) (fun a => by kernel_rfl) (fun p => rfl) (fun p h => trivial) (fun p => by
      have e : Ms.sm Ms.blS p.2.1 = (p.2.1.map (fun l => l.length + 1)).sum := rfl
      unfold Ms.bA
      dsimp only
      omega)
theorem opnReqU (N : Nat) : OpnU N Tryz.prog 49 Ms.cReq Ms.Okz Ms.bR := by
  have hw := OpnU.slice (OpnU.str (N := N) (P := Tryz.prog) Tryz.underlying9 (by kernel_rfl)) Tryz.underlying40 (by kernel_rfl) (by kernel_rfl)
  have hm := OpnU.slice (opnModU N) Tryz.underlying44 (by kernel_rfl) (by kernel_rfl)
  have ha := OpnU.slice (opnAttrU25 N) Tryz.underlying45 (by kernel_rfl) (by kernel_rfl)
  have hf := opnFilU N
  have hv := OpnU.struct (N := N) Tryz.underlying47 (by kernel_rfl) (OpnFU.cons rfl (OpnU.str Tryz.underlying9 (by kernel_rfl)) (OpnFU.cons rfl (OpnU.str Tryz.underlying9 (by kernel_rfl)) (OpnFU.nil _)))
  rw [show Tryz.prog.cellsOf 9 = 1 by kernel_rfl] at hw
  rw [show Tryz.prog.cellsOf 110 = 3 by kernel_rfl] at hm
  rw [show Tryz.prog.cellsOf 112 = 2 by kernel_rfl] at ha
  have H := OpnU.struct (N := N) Tryz.underlying49 (by kernel_rfl) (OpnFU.cons rfl (OpnU.int Tryz.underlying3 (by kernel_rfl)) (OpnFU.cons rfl (OpnU.int Tryz.underlying3 (by kernel_rfl)) (OpnFU.cons rfl (OpnU.str Tryz.underlying9 (by kernel_rfl)) (OpnFU.cons rfl (OpnU.str Tryz.underlying9 (by kernel_rfl)) (OpnFU.cons rfl (OpnU.int Tryz.underlying3 (by kernel_rfl)) (OpnFU.cons rfl (OpnU.int Tryz.underlying3 (by kernel_rfl)) (OpnFU.cons rfl hf (OpnFU.cons rfl (hw.less (by omega)) (OpnFU.cons rfl (hm.less (by omega)) (OpnFU.cons rfl (ha.less (by omega)) (OpnFU.cons rfl (OpnU.str Tryz.underlying9 (by kernel_rfl)) (OpnFU.cons rfl (OpnU.bool Tryz.underlying4 (by kernel_rfl)) (OpnFU.cons rfl (OpnU.bool Tryz.underlying4 (by kernel_rfl)) (OpnFU.cons rfl (OpnU.str Tryz.underlying9 (by kernel_rfl)) (OpnFU.cons rfl (hv.less (by omega)) (OpnFU.cons rfl (OpnU.int Tryz.underlying3 (by kernel_rfl)) (OpnFU.nil _)))))))))))))))))
  refine (H.less (Nat.le_succ N)).map (fun p => ⟨p.1, p.2.1, p.2.2.1, p.2.2.2.1, p.2.2.2.2.1, p.2.2.2.2.2.1, p.2.2.2.2.2.2.1, p.2.2.2.2.2.2.2.1, p.2.2.2.2.2.2.2.2.1, p.2.2.2.2.2.2.2.2.2.1, p.2.2.2.2.2.2.2.2.2.2.1, p.2.2.2.2.2.2.2.2.2.2.2.1, p.2.2.2.2.2.2.2.2.2.2.2.2.1, p.2.2.2.2.2.2.2.2.2.2.2.2.2.1, p.2.2.2.2.2.2.2.2.2.2.2.2.2.2.1.1, p.2.2.2.2.2.2.2.2.2.2.2.2.2.2.1.2.1, p.2.2.2.2.2.2.2.2.2.2.2.2.2.2.2.1⟩) (fun a => by kernel_rfl) (fun p => ?_) (fun p h => ?_) (fun p => ?_)
  · obtain ⟨a1, a2, a3, a4, a5, a6, f, a8, a9, b1, b2, b3, b4, b5, ⟨b6, b7, _⟩, b8, _⟩ := p
    obtain ⟨k, t, v, s, ks⟩ := f
    have e : ∀ (k : Int) (t v : List UInt8) (s : List (List UInt8)) (ks : List Fi.Fil), Fi.cF (.mk k t v s ks) = [okI .i64 k, Is (str t), Is (str v), TSl 1 Fi.cS s, TSl 5 Fi.cFil ks] := fun _ _ _ _ _ => rfl
    dsimp only
    rw [e, Fi.cF_eq]
    rfl
  · obtain ⟨a1, a2, a3, a4, a5, a6, f, a8, a9, b1, b2, b3, b4, b5, ⟨b6, b7, _⟩, b8, _⟩ := p
    dsimp only at h
    exact ⟨wf_okK h.1, wf_okK h.2.1, wf_okK h.2.2.2.2.1, wf_okK h.2.2.2.2.2.1, wf_okK h.2.2.2.2.2.2.2.2.2.2.2.2.2.2.2.1, h.2.2.2.2.2.2.2.2.1.2⟩
  · obtain ⟨a1, a2, a3, a4, a5, a6, f, a8, a9, b1, b2, b3, b4, b5, ⟨b6, b7, _⟩, b8, _⟩ := p
    have e1 : Ms.sm Ms.blS a8 = (a8.map (fun l => l.length + 1)).sum := rfl
    have e2 : Ms.sm Ms.bM a9 = (a9.map Ms.bM).sum := rfl
    have e3 : Ms.sm Ms.bA b1 = (b1.map Ms.bA).sum := rfl
    unfold Ms.bR
    dsimp only
    omega
end Go.Proofs.YtkpghepeagafoaaGreat
set_option linter.unusedVariables false
namespace Go.Ms
open Go.Vk
theorem frame_A {x : UInt8} (r : List UInt8) (h : x.toNat < 128) : frameB (48 :: x :: r) = frEnd (48 :: x :: r) 2 (x.toNat : Int) := frame_3 rfl (by simp) h
theorem frame_B (y : UInt8) (r : List UInt8) : frameB (48 :: 129 :: y :: r) = frEnd (48 :: 129 :: y :: r) 3 (y.toNat : Int) := by
  have e : frLong (48 :: 129 :: y :: r) 1 = (y.toNat : Int) := by
    unfold frLong
    simp [Ber.be]
  have h := frame_6 (b := 48 :: 129 :: y :: r) rfl (by simp) (by simp) (by simp) (by simp)
  simp only [List.getD_cons_succ, List.getD_cons_zero] at h
  rw [h]
  show frEnd _ 3 (frLong _ 1) = _
  rw [e]
theorem frame_C (y z : UInt8) (r : List UInt8) : frameB (48 :: 130 :: y :: z :: r) = frEnd (48 :: 130 :: y :: z :: r) 4 ((y.toNat : Int) * 256 + (z.toNat : Int)) := by
  have e : frLong (48 :: 130 :: y :: z :: r) 2 = (y.toNat : Int) * 256 + (z.toNat : Int) := by
    unfold frLong
    simp [Ber.be]
  have h := frame_6 (b := 48 :: 130 :: y :: z :: r) rfl (by simp) (by simp) (by simp) (by simp)
  simp only [List.getD_cons_succ, List.getD_cons_zero] at h
  rw [h]
  show frEnd _ 4 (frLong _ 2) = _
  rw [e]
theorem frame_B0 : frameB [48, 129] = (0, 0) := by decide +kernel
theorem frame_C0 : frameB [48, 130] = (0, 0) := by decide +kernel
theorem frame_C1 (y : UInt8) : frameB [48, 130, y] = (0, 0) := frame_5 rfl (by simp) (by simp) (by simp) (by simp)
/-- A message's bytes, by how long its body is. -/
theorem tag48 (l : List UInt8) (hn : l.length < 65536) : (l.length < 128 ∧ Ber.tagB 48 [l] = 48 :: b8 (l.length : Int) :: l) ∨ (128 ≤ l.length ∧ l.length < 256 ∧ Ber.tagB 48 [l] = 48 :: 129 :: b8 (l.length : Int) :: l) ∨ (256 ≤ l.length ∧ Ber.tagB 48 [l] = 48 :: 130 :: b8 ((l.length : Int) / 256) :: b8 (l.length : Int) :: l) := by
  rw [Ber.tagB_one]
  by_cases h1 : l.length < 128
  · rw [Ber.lenB_1 _ (by omega)]; exact .inl ⟨h1, rfl⟩
  by_cases h2 : l.length < 256
  · rw [Ber.lenB_2 _ (by omega)]; exact .inr (.inl ⟨by omega, h2, rfl⟩)
  · rw [Ber.lenB_3 _ (by omega)]; exact .inr (.inr ⟨by omega, rfl⟩)
theorem frame_all (l rest : List UInt8) (h : (Ber.tagB 48 [l]).length ≤ 65536) (hn : l.length < 65536) : frameB (Ber.tagB 48 [l] ++ rest) = (((Ber.tagB 48 [l]).length : Int), 0) := by
  rcases tag48 l hn with ⟨h1, e⟩ | ⟨h1, h2, e⟩ | ⟨h1, e⟩
  · have hb := b8_toNat (l.length : Int)
    rw [e] at h ⊢
    rw [List.cons_append, List.cons_append, frame_A _ (by omega)]
    simp only [List.length_cons] at h ⊢
    rw [frEnd_1 (by omega) (by simp only [List.length_cons, List.length_append]; omega)]
    rw [show ((b8 (l.length : Int)).toNat : Int) = (l.length : Int) by omega]
    congr 1; omega
  · have hb := b8_toNat (l.length : Int)
    rw [e] at h ⊢
    rw [List.cons_append, List.cons_append, List.cons_append, frame_B]
    simp only [List.length_cons] at h ⊢
    rw [frEnd_1 (by omega) (by simp only [List.length_cons, List.length_append]; omega)]
    rw [show ((b8 (l.length : Int)).toNat : Int) = (l.length : Int) by omega]
    congr 1; omega
  · have hb := b8_toNat (l.length : Int)
    have hb2 := b8_toNat ((l.length : Int) / 256)
    have he : ((b8 ((l.length : Int) / 256)).toNat : Int) * 256 + ((b8 (l.length : Int)).toNat : Int) = (l.length : Int) := by omega
    rw [e] at h ⊢
    rw [List.cons_append, List.cons_append, List.cons_append, List.cons_append, frame_C, he]
    simp only [List.length_cons] at h ⊢
    rw [frEnd_1 (by omega) (by simp only [List.length_cons, List.length_append]; omega)]
    congr 1; omega
theorem frame_cut (l : List UInt8) (h : (Ber.tagB 48 [l]).length ≤ 65536) (hn : l.length < 65536) (k : Nat) (hk : k < (Ber.tagB 48 [l]).length) : frameB ((Ber.tagB 48 [l]).take k) = (0, 0) := by
  match k with
  | 0 => rfl
  | 1 =>
    rw [Ber.tagB_one]
    show frameB [48] = _
    decide +kernel
  | k + 2 =>
    rcases tag48 l hn with ⟨h1, e⟩ | ⟨h1, h2, e⟩ | ⟨h1, e⟩
    · have hb := b8_toNat (l.length : Int)
      rw [e] at h hk ⊢
      simp only [List.length_cons] at h hk
      rw [List.take_succ_cons, List.take_succ_cons, frame_A _ (by omega)]
      rw [frEnd_0 (by omega) (by simp only [List.length_cons, List.length_take]; omega)]
    · have hb := b8_toNat (l.length : Int)
      rw [e] at h hk ⊢
      simp only [List.length_cons] at h hk
      rw [List.take_succ_cons, List.take_succ_cons]
      cases k with
      | zero => exact frame_B0
      | succ k =>
        rw [List.take_succ_cons, frame_B]
        rw [frEnd_0 (by omega) (by simp only [List.length_cons, List.length_take]; omega)]
    · have hb := b8_toNat (l.length : Int)
      have hb2 := b8_toNat ((l.length : Int) / 256)
      have he : ((b8 ((l.length : Int) / 256)).toNat : Int) * 256 + ((b8 (l.length : Int)).toNat : Int) = (l.length : Int) := by omega
      rw [e] at h hk ⊢
      simp only [List.length_cons] at h hk
      rw [List.take_succ_cons, List.take_succ_cons]
      cases k with
      | zero => exact frame_C0
      | succ k =>
        cases k with
        | zero => exact frame_C1 _
        | succ k =>
          rw [List.take_succ_cons, List.take_succ_cons, frame_C, he]
          rw [frEnd_0 (by omega) (by simp only [List.length_cons, List.length_take]; omega)]
theorem reqB_one (r : Req) : reqB r = Ber.tagB 48 [Ber.tagB 2 [Ber.intB r.num] ++ opB r] := by
  have h := tag_flat 48 [Ber.tagB 2 [Ber.intB r.num], opB r]
  rw [show [Ber.tagB 2 [Ber.intB r.num], opB r].flatten = Ber.tagB 2 [Ber.intB r.num] ++ opB r by simp] at h
  exact h.symm
theorem reqB_body {r : Req} (h : (reqB r).length ≤ 65536) : (Ber.tagB 2 [Ber.intB r.num] ++ opB r).length < 65536 := by
  rw [reqB_one, Ber.tagB_one] at h
  simp only [List.length_cons, List.length_append] at h ⊢
  omega
theorem req_frame {r : Req} (h : (reqB r).length ≤ 65536) (rest : List UInt8) : frameB (reqB r ++ rest) = (((reqB r).length : Int), 0) := by
  have hb := reqB_body h
  rw [reqB_one] at h ⊢
  exact frame_all _ _ h hb
theorem req_cut {r : Req} (h : (reqB r).length ≤ 65536) {k : Nat} (hk : k < (reqB r).length) : frameB ((reqB r).take k) = (0, 0) := by
  have hb := reqB_body h
  rw [reqB_one] at h hk ⊢
  exact frame_cut _ h hb k hk
theorem reqB_pos (r : Req) : 2 ≤ (reqB r).length := by
  rw [reqB_one]
  generalize Ber.tagB 2 [Ber.intB r.num] ++ opB r = l
  rw [Ber.tagB_one]
  have : 1 ≤ (Ber.lenB (l.length : Int)).length := by unfold Ber.lenB; split <;> simp
  simp only [List.length_cons, List.length_append]
  omega
theorem isR_len {r : Req} (h : isR r = true) : (reqB r).length ≤ 65536 := by
  unfold isR at h
  rw [Bool.and_eq_true, decide_eq_true_eq] at h
  exact h.2
end Go.Ms
set_option maxRecDepth 8000
set_option linter.unusedVariables false
namespace Go.Proofs.YtkpghepeagafoaaGreat
open Go.Vk
attribute [local irreducible] HT HX RegS RegA RegM OpP OpC AltT
attribute [local irreducible] Ber.tagB Ber.lenB Ber.intB Ms.textB Ms.wV Ms.wF Ms.filB Ms.piecesB Ms.tagF Fi.isF Fi.wt Ms.wM Ms.wA Ms.textsB Ms.modsB Ms.attrsB Ms.opB Ms.isR Ms.reqB Ms.heavyB Ms.frameB
theorem opnBytesU (N : Nat) : OpnU N Tryz.prog 27 (cL 1 cB) (fun _ => True) (fun l => l.length + 1) := by
  have h := OpnU.slice (OpnU.byte (N := N) (P := Tryz.prog) Tryz.underlying5 (by kernel_rfl)) Tryz.underlying27 (by kernel_rfl) (by kernel_rfl)
  rw [show Tryz.prog.cellsOf 5 = 1 by kernel_rfl] at h
  refine (h.less (Nat.le_succ N)).map id (fun l => by rw [show Tryz.prog.cellsOf 27 = 1 by kernel_rfl]; rfl) (fun _ => rfl) (fun _ _ => trivial) (fun l => ?_)
  have : ∀ m : List UInt8, (m.map (fun _ : UInt8 => 1)).sum = m.length := fun m => by induction m with
    | nil => rfl
    | cons a r ih => rw [List.map_cons, List.sum_cons, ih, List.length_cons]; omega
  have e := this l
  show l.length + 1 ≤ _
  omega
end Go.Proofs.YtkpghepeagafoaaGreat
set_option linter.unusedVariables false
namespace Go.Ss
open Go.Vk
/-- Requests as bytes. -/
def allB (l : List Ms.Req) : List UInt8 := l.flatMap Ms.reqB
/-- Requests that may come: an unbind stands last. -/
def Good : List Ms.Req → Prop
  | [] => True
  | r :: m => Ms.isR r = true ∧ (r.kind = 2 → m = []) ∧ Good m
theorem allB_cons (r : Ms.Req) (m : List Ms.Req) : allB (r :: m) = Ms.reqB r ++ allB m := by unfold allB; rw [List.flatMap_cons]
/-- A connection as it stands: so many requests were taken; what is to come. -/
structure Mid (l : List Ms.Req) (k : Nat) (o : Bool) (w rest : List UInt8) : Prop where
  le : k ≤ l.length
  good : o = true → Good (l.drop k) ∧ w ++ rest = allB (l.drop k)
  shut : o = false → k = l.length ∧ rest = [] ∧ w = []
  done : rest = [] → k = l.length ∧ w = []
theorem tk_piece : ∀ (m : List Ms.Req) (acc : List Ms.Req) (q rest : List UInt8), Good m → q ++ rest = allB m → ∃ k o w, tk acc q = ((acc ++ m.take k, false), o, w) ∧ Mid m k o w rest
  | [], acc, q, rest, _, h => by
    have h0 : q = [] ∧ rest = [] := by
      have : q ++ rest = [] := h
      simpa using this
    obtain ⟨rfl, rfl⟩ := h0
    refine ⟨0, true, [], ?_, ⟨Nat.le_refl _, fun _ => ⟨trivial, rfl⟩, fun e => (by cases e), fun _ => ⟨rfl, rfl⟩⟩⟩
    rw [tk_wait (by rw [Ms.frame_0 (by simp)]; simp) (by rw [Ms.frame_0 (by simp)])]
    simp
  | r :: m, acc, q, rest, ⟨h1, h2, h3⟩, h => by
    rw [allB_cons] at h
    have hl := Ms.isR_len h1
    have hp := Ms.reqB_pos r
    by_cases hlt : q.length < (Ms.reqB r).length
    · have hq : q = (Ms.reqB r).take q.length := by
        have := congrArg (List.take q.length) h
        rw [List.take_left, List.take_append_of_le_length (by omega)] at this
        exact this
      have hf : Ms.frameB q = (0, 0) := by rw [hq]; exact Ms.req_cut hl hlt
      have hr : rest ≠ [] := fun e => by
        rw [e, List.append_nil] at h
        rw [h, List.length_append] at hlt
        omega
      refine ⟨0, true, q, ?_, ⟨Nat.zero_le _, fun _ => ⟨⟨h1, h2, h3⟩, ?_⟩, fun e => (by cases e), fun e => (hr e).elim⟩⟩
      · rw [tk_wait (by rw [hf]; simp) (by rw [hf])]
        simp
      · rw [List.drop_zero, allB_cons]; exact h
    · have hq : q = Ms.reqB r ++ q.drop (Ms.reqB r).length := by
        have := congrArg (List.take (Ms.reqB r).length) h
        rw [List.take_left, List.take_append_of_le_length (by omega)] at this
        conv => lhs; rw [← List.take_append_drop (Ms.reqB r).length q, this]
      generalize q.drop (Ms.reqB r).length = q' at hq
      subst hq
      rw [List.append_assoc] at h
      have h' := List.append_cancel_left h
      have hf := Ms.req_frame hl q'
      have hf1 : ¬ (Ms.frameB (Ms.reqB r ++ q')).2 ≠ 0 := by rw [hf]; simp
      have hf2 : ¬ (Ms.frameB (Ms.reqB r ++ q')).1 = 0 := by rw [hf]; dsimp only; omega
      have ht : (Ms.reqB r ++ q').take (Ms.frameB (Ms.reqB r ++ q')).1.toNat = Ms.reqB r := by rw [hf]; dsimp only; rw [Int.toNat_natCast, List.take_left]
      have hd : (Ms.reqB r ++ q').drop (Ms.frameB (Ms.reqB r ++ q')).1.toNat = q' := by rw [hf]; dsimp only; rw [Int.toNat_natCast, List.drop_left]
      have hb := Ms.dec_reqB h1
      by_cases hk : r.kind = 2
      · have hm := h2 hk
        subst hm
        have h0 : q' = [] ∧ rest = [] := by
          have : q' ++ rest = [] := h'
          simpa using this
        obtain ⟨rfl, rfl⟩ := h0
        refine ⟨1, false, [], ?_, ⟨by simp, fun e => (by cases e), fun _ => ⟨rfl, rfl, rfl⟩, fun _ => ⟨rfl, rfl⟩⟩⟩
        rw [tk_end hf1 hf2 (by rw [ht, hb]; simp) (by rw [ht, hb]; exact hk), ht, hb]
        simp
      · obtain ⟨k, o, w, e, hM⟩ := tk_piece m (acc ++ [r]) q' rest h3 h'
        refine ⟨k + 1, o, w, ?_, ⟨by have := hM.le; simp; omega, fun ho => hM.good ho, fun ho => ?_, fun he => ?_⟩⟩
        · rw [tk_go hf1 hf2 (by rw [ht, hb]; simp) (by rw [ht, hb]; exact hk), ht, hb, hd, e]
          simp
        · obtain ⟨a, b, c⟩ := hM.shut ho
          exact ⟨by simp; omega, b, c⟩
        · obtain ⟨a, b⟩ := hM.done he
          exact ⟨by simp; omega, b⟩
/-- One piece more. -/
theorem Mid.next {l : List Ms.Req} {k : Nat} {o : Bool} {w p rest : List UInt8} (h : Mid l k o w (p ++ rest)) (ho : o = true) : ∃ k' o' w', tk [] (w ++ p) = (((l.drop k).take k', false), o', w') ∧ Mid l (k + k') o' w' rest := by
  obtain ⟨h1, h2⟩ := h.good ho
  rw [← List.append_assoc] at h2
  obtain ⟨k', o', w', e, hM⟩ := tk_piece (l.drop k) [] (w ++ p) rest h1 h2
  refine ⟨k', o', w', by rw [e]; simp, ⟨?_, fun ho => ?_, fun ho => ?_, fun he => ?_⟩⟩
  · have h3 := hM.le
    have h4 := h.le
    rw [List.length_drop] at h3
    omega
  · have := hM.good ho
    rwa [List.drop_drop] at this
  · obtain ⟨a, b, c⟩ := hM.shut ho
    rw [List.length_drop] at a
    have h4 := h.le
    exact ⟨by omega, b, c⟩
  · obtain ⟨a, b⟩ := hM.done he
    rw [List.length_drop] at a
    have h4 := h.le
    exact ⟨by omega, b⟩
theorem good_of : ∀ (l : List Ms.Req), (∀ j, j < l.length → Ms.isR (l.getD j default) = true ∧ ((l.getD j default).kind = 2 → j + 1 = l.length)) → Good l
  | [], _ => trivial
  | r :: m, h => by
    have h0 := h 0 (by simp)
    refine ⟨h0.1, fun hk => ?_, good_of m fun j hj => ?_⟩
    · have := h0.2 hk
      simp at this
      exact this
    · have h1 := h (j + 1) (by simp; omega)
      exact ⟨h1.1, fun hk => by have := h1.2 hk; simp at this; omega⟩
theorem good_nil {l : List Ms.Req} (h : Good l) (e : allB l = []) : 0 = l.length ∧ ([] : List UInt8) = [] := by
  cases l with
  | nil => exact ⟨rfl, rfl⟩
  | cons r m =>
    rw [allB_cons] at e
    have := Ms.reqB_pos r
    have h2 := congrArg List.length e
    rw [List.length_append, List.length_nil] at h2
    omega
theorem allB_snoc {l : List Ms.Req} {i : Nat} (h : i < l.length) : allB (l.take (i + 1)) = allB (l.take i) ++ Ms.reqB (l.getD i default) := by
  unfold allB
  rw [List.take_succ_eq_append_getElem h, List.flatMap_append, List.getD_eq_getElem?_getD, List.getElem?_eq_getElem h]; simp
theorem allB_len : ∀ l : List Ms.Req, 2 * l.length ≤ (allB l).length
  | [] => by simp
  | r :: m => by
    have := allB_len m
    have h2 := Ms.reqB_pos r
    rw [allB_cons, List.length_append, List.length_cons]
    omega
theorem take_more {α : Type} (l : List α) (k k' : Nat) : l.take k ++ (l.drop k).take k' = l.take (k + k') := by
  rw [List.take_add]
end Go.Ss
set_option maxRecDepth 8000
set_option linter.unusedVariables false
namespace Go.Proofs.YtkpghepeagafoaaGreat
open Go.Vk
attribute [local irreducible] HT HX RegS RegA RegM OpP OpC AltT
theorem seWaitingP (o : Bool) (W : Ty) (w : List UInt8) : CFn Tryz.prog 11 [TPc [Is (.bool o), W, TBytes w]] (okI .i64 (w.length : Int)) := by
  refine CallsC.of Tryz.call11 Tryz.func11 rfl Tryz.ntmps11 rfl fun w0 G0 S0 hs ho => ?_
  exact run trivial
theorem and255 (m : Int) : 0 ≤ bitsOf .and .i64 m 255 ∧ bitsOf .and .i64 m 255 ≤ 255 := by
  unfold bitsOf
  dsimp only
  have h2 : IntKind.i64.bits = 64 := rfl
  have e : (BitVec.ofInt IntKind.i64.bits m &&& BitVec.ofInt IntKind.i64.bits 255).toNat ≤ 255 := by
    rw [BitVec.toNat_and]
    refine Nat.le_trans Nat.and_le_right ?_
    rw [BitVec.toNat_ofInt, h2]
    decide
  have : IntKind.i64.wrap (((BitVec.ofInt IntKind.i64.bits m &&& BitVec.ofInt IntKind.i64.bits 255).toNat : Nat) : Int) = (((BitVec.ofInt IntKind.i64.bits m &&& BitVec.ofInt IntKind.i64.bits 255).toNat : Nat) : Int) := InK.i64 (by omega)
  rw [this]
  omega
attribute [local irreducible] Ber.tagB Ber.lenB Ber.intB Ber.allE Ber.fromIntB Ber.nextB Ms.frameB Ms.decP Ss.tk Ms.isR Ms.reqB Ss.allB
set_option maxHeartbeats 4000000 in
theorem lwPieces26 (l : List Ms.Req) (cuts : List Int) (h : ∀ r ∈ l, Ms.Okr r) (hl : l.length ≤ 2000000) (hc : cuts.length ≤ 2000000) : CFn Tryz.prog 4 [TSl 21 Ms.cReq l, TSl 1 cI cuts] (Is (.bool true)) := by
  have c9 := lwKnown26
  refine CallsC.of Tryz.call4 Tryz.func4 rfl Tryz.ntmps4 rfl fun w0 G0 S0 hs ho => ?_
  refine run ?_
  refine HT.loopX (σ := (Nat × List UInt8) × Value) [0, 1] (fun t => [(5, TAnd (Is t.2) (TBytes t.1.2)), (6, okI .i64 (t.1.1 : Int))]) (fun t => [ownSl t.2 1 5]) (fun t => t.1.1 ≤ l.length ∧ t.1.2 = Ss.allB (l.take t.1.1) ∧ t.1.2.length ≤ 3000 ∧ ∀ j, j < t.1.1 → Ms.isR (l.getD j default) = true ∧ ((l.getD j default).kind = 2 → j + 1 = l.length)) (fun t => l.length - t.1.1) ((0, []), .slice none 0 0) ⟨Nat.zero_le _, by unfold Ss.allB; rfl, by simp, fun j hj => (Nat.not_lt_zero j hj).elim⟩ (run trivial) (run trivial) ?_
  rintro ⟨⟨i, all⟩, u⟩ ⟨hi, ha, hal, hg⟩
  dsimp only at hi ha hal hg ⊢
  by_cases hlt : i < l.length
  · have c1 := rfEncode25 (l.getD i default) (h _ (by rw [List.getD_eq_getElem?_getD, List.getElem?_eq_getElem hlt]; simp))
    cases hr : Ms.isR (l.getD i default) with
    | false =>
      rw [hr] at c1
      simp only [Bool.false_eq_true, if_false] at c1
      exact run trivial
    | true =>
      rw [hr] at c1
      simp only [reduceIte] at c1
      have h1 := Ms.isR_len hr
      have h2 := Ss.allB_snoc hlt
      refine run ?_
      intro u' _ h3 h4
      refine HX.roundX ((i + 1, all ++ Ms.reqB (l.getD i default)), u') ⟨⟨by dsimp only; omega, by dsimp only; rw [h2, ha], by dsimp only; rw [List.length_append]; omega, fun j hj => ?_⟩, by dsimp only; omega⟩ rfl (run trivial) (run trivial)
      rcases (by dsimp only at hj; omega : j < i ∨ j = i) with hj | rfl
      · exact hg j hj
      · exact ⟨hr, fun hk => by omega⟩
  · have hall : all = Ss.allB l := by rw [ha, List.take_of_length_le (by omega)]
    have hgood : Ss.Good l := Ss.good_of l (fun j hj => hg j (by omega))
    subst hall
    have c1 := seNew
    have hll := Ss.allB_len l
    have hreq := seRequests l h (by omega)
    refine run ?_
    intro v0 _ _
    clear c1
    refine HT.loopX (σ := (Nat × Nat × Bool × List UInt8 × List UInt8 × List Ms.Req) × Value) [0, 1, 9] (fun t => [(5, TBytes t.1.2.2.2.2.1), (10, TAnd (Is t.2) (TSl 21 Ms.cReq t.1.2.2.2.2.2)), (11, okI .i64 (t.1.1 : Int))]) (fun t => [SX (blk v0) t.1.2.2.1 (TSl 2 Dn.cAva []) (TBytes t.1.2.2.2.1), ownSl t.2 21 49]) (fun t => Ss.Mid l t.1.2.1 t.1.2.2.1 t.1.2.2.2.1 t.1.2.2.2.2.1 ∧ t.1.2.2.2.2.2 = l.take t.1.2.1 ∧ t.1.2.2.2.1.length + t.1.2.2.2.2.1.length ≤ 3000 ∧ (t.1.1 ≤ cuts.length ∨ t.1.2.2.2.2.1 = [])) (fun t => if t.1.2.2.2.2.1.length = 0 then 0 else cuts.length + 1 - t.1.1) ((0, 0, true, [], Ss.allB l, []), .slice none 0 0) ⟨⟨Nat.zero_le _, fun _ => ⟨hgood, rfl⟩, fun e => (by cases e), fun e => Ss.good_nil hgood e⟩, rfl, by dsimp only; simp; omega, .inl (Nat.zero_le _)⟩ (run trivial) (run trivial) ?_
    clear ha hal hg hlt
    rintro ⟨⟨n, k, o, w, rest, out⟩, u'⟩ ⟨hM, hout, hlen, hn⟩
    dsimp only at hM hout hlen hn ⊢
    by_cases hr : rest.length = 0
    · have hr0 := List.eq_nil_of_length_eq_zero hr
      obtain ⟨hk, hw⟩ := hM.done hr0
      have ho : out = l := by rw [hout, hk, List.take_length]
      subst hr0 hw ho
      have c6 := seWaitingP
      refine run ?_
      intro _
      rfl
    · have ho : o = true := by
        cases o with
        | true => rfl
        | false => exact (hr (by rw [(hM.shut rfl).2.1]; rfl)).elim
      subst ho
      have key : ∀ z : Int, 0 ≤ z ∧ z ≤ (rest.length : Int) → ∃ k' o' w', CallsC Tryz.prog 7 [Is (pAt (blk v0) 0), TBytes (rest.take z.toNat)] [SX (blk v0) true (TSl 2 Dn.cAva []) (TBytes w)] (fun _ => TTup [TSl 21 Ms.cReq ((l.drop k).take k'), Is (.bool false)]) (fun _ => [SX (blk v0) o' (TSl 2 Dn.cAva []) (TBytes w')]) ∧ Ss.Mid l (k + k') o' w' (rest.drop z.toNat) ∧ w'.length + (rest.drop z.toNat).length ≤ 3000 := fun z hz => by
        have hM' := hM
        rw [← List.take_append_drop z.toNat rest] at hM'
        obtain ⟨k', o', w', e, hM2⟩ := hM'.next rfl
        have hlp : (rest.take z.toNat).length = z.toNat := by rw [List.length_take]; omega
        have hld : (rest.drop z.toNat).length = rest.length - z.toNat := List.length_drop
        have c2 := seTakeA (blk v0) (TSl 2 Dn.cAva []) w (rest.take z.toNat) (by omega)
        have hsn := (Ss.tk_sane (w ++ rest.take z.toNat) (by rw [List.length_append]; omega) [] (fun x hx => by simp at hx)).left
        rw [e] at c2 hsn
        rw [List.length_append] at hsn
        dsimp only at hsn
        exact ⟨k', o', w', c2, hM2, by omega⟩
      have ho1 : out.length ≤ l.length := by rw [hout, List.length_take]; omega
      have pl := Plan.mk' 24 [(0,3,[]),(1,3,[]),(3,3,[]),(4,3,[]),(5,3,[]),(2,0,[]),(6,3,[]),(7,3,[])]
      by_cases hct : n < cuts.length
      · have hb := and255 (cuts.getD n default)
        have hms : ∀ a : Nat, (if a = 0 then 0 else cuts.length + 1 - (n + 1)) < cuts.length + 1 - n := fun a => by split <;> omega
        have hz : 0 ≤ (if bitsOf .and .i64 (cuts.getD n default) 255 < (rest.length : Int) then bitsOf .and .i64 (cuts.getD n default) 255 else (rest.length : Int)) ∧ (if bitsOf .and .i64 (cuts.getD n default) 255 < (rest.length : Int) then bitsOf .and .i64 (cuts.getD n default) 255 else (rest.length : Int)) ≤ (rest.length : Int) := by
          split <;> omega
        obtain ⟨k', o', w', c2, hM2, hl2⟩ := key _ hz
        have ho2 : ((l.drop k).take k').length ≤ l.length := by rw [List.length_take, List.length_drop]; omega
        clear key
        refine run ?_
        intro u2 _ _ _
        exact HX.roundX ((n + 1, k + k', o', w', rest.drop ((if bitsOf .and .i64 (cuts.getD n default) 255 < (rest.length : Int) then bitsOf .and .i64 (cuts.getD n default) 255 else (rest.length : Int))).toNat, out ++ (l.drop k).take k'), u2) ⟨⟨hM2, by dsimp only; rw [hout, Ss.take_more], hl2, .inl (by dsimp only; omega)⟩, by dsimp only; rw [if_neg hr]; exact hms _⟩ rfl (run trivial) (run trivial)
      · have hn' : n = cuts.length := by rcases hn with hn | hn; omega; exact (hr (by rw [hn]; rfl)).elim
        obtain ⟨k', o', w', c2, hM2, hl2⟩ := key (rest.length : Int) ⟨by omega, by omega⟩
        have ho2 : ((l.drop k).take k').length ≤ l.length := by rw [List.length_take, List.length_drop]; omega
        clear key
        have hnil : rest.drop ((rest.length : Int)).toNat = [] := by rw [Int.toNat_natCast, List.drop_length]
        refine run ?_
        intro u2 _ _ _
        exact HX.roundX ((n + 1, k + k', o', w', rest.drop ((rest.length : Int)).toNat, out ++ (l.drop k).take k'), u2) ⟨⟨hM2, by dsimp only; rw [hout, Ss.take_more], hl2, .inr hnil⟩, by dsimp only; rw [if_neg hr, hnil, List.length_nil, if_pos rfl]; omega⟩ rfl (run trivial) (run trivial)
end Go.Proofs.YtkpghepeagafoaaGreat
set_option linter.unusedVariables false
namespace Go.Ss
open Go.Vk
theorem subsW_blS : ∀ l : List (List UInt8), Fi.subsW l ≤ Ms.sm Ms.blS l
  | [] => by simp [Fi.subsW, Ms.sm]
  | s :: r => by
    have := subsW_blS r
    have h : Ms.blS s = s.length + 1 := rfl
    have e : Ms.sm Ms.blS (s :: r) = Ms.blS s + Ms.sm Ms.blS r := by unfold Ms.sm; rw [List.map_cons, List.sum_cons]
    rw [Fi.subsW, e]; omega
mutual
theorem wt_bF : ∀ f : Fi.Fil, Fi.wt f ≤ Ms.bF f
  | .mk k t v s ks => by
    have h1 := wtL_bF ks
    have h2 := subsW_blS s
    rw [Fi.wt, Ms.bF]; omega
theorem wtL_bF : ∀ l : List Fi.Fil, Fi.wtL l ≤ Ms.bFs l
  | [] => by rw [Fi.wtL]; omega
  | f :: r => by
    have h1 := wt_bF f
    have h2 := wtL_bF r
    rw [Fi.wtL, Ms.bFs]; omega
end
theorem okr_bulk {r : Ms.Req} (h : Ms.Okz r) (hb : Ms.bR r ≤ 1048576) : Ms.Okr r := by
  have q := Ms.okq_of h hb
  have h1 := wt_bF r.fil
  have h2 := Ms.wF_bF r.fil
  unfold Ms.bR at hb
  exact ⟨q.num, q.kind, q.scope, q.limit, q.which, q.dn, q.pass, q.rdn, q.up, q.avaT, q.avaV, q.fil, q.want, q.mods, q.attrs, q.kinds, by omega⟩
theorem bR_at {l : List Ms.Req} {r : Ms.Req} (h : r ∈ l) : Ms.bR r ≤ Ms.sm Ms.bR l := by
  unfold Ms.sm
  induction l with
  | nil => cases h
  | cons a m ih =>
    rw [List.map_cons, List.sum_cons]
    rcases List.mem_cons.1 h with rfl | h
    · omega
    · have := ih h; omega
theorem bR_pos (r : Ms.Req) : 1 ≤ Ms.bR r := by
  unfold Ms.bR
  cases r.fil with
  | mk k t v s ks => rw [Ms.bF]; omega
theorem bR_len : ∀ l : List Ms.Req, l.length ≤ Ms.sm Ms.bR l
  | [] => by simp
  | r :: m => by
    have h1 := bR_len m
    have h2 := bR_pos r
    have e : Ms.sm Ms.bR (r :: m) = Ms.bR r + Ms.sm Ms.bR m := by unfold Ms.sm; rw [List.map_cons, List.sum_cons]
    rw [e, List.length_cons]; omega
end Go.Ss
set_option maxRecDepth 8000
set_option linter.unusedVariables false
namespace Go.Proofs.YtkpghepeagafoaaGreat
open Go.Vk
attribute [local irreducible] HT HX RegS RegA RegM OpP OpC AltT
attribute [local irreducible] Ms.wF Fi.wt Ms.wM Ms.wA Ms.isR Ms.reqB Ms.bR
theorem opnReqsU (N : Nat) : OpnU N Tryz.prog 31 (cL 21 Ms.cReq) (fun l => ∀ r ∈ l, Ms.Okz r) (fun l => Ms.sm Ms.bR l + 1) := by
  have h := OpnU.slice (opnReqU N) Tryz.underlying31 (by kernel_rfl) (by kernel_rfl)
  rw [show Tryz.prog.cellsOf 49 = 21 by kernel_rfl] at h
  exact (h.less (Nat.le_succ N)).map id (fun l => by rw [show Tryz.prog.cellsOf 31 = 1 by kernel_rfl]; rfl) (fun _ => rfl) (fun l hl => hl.2) (fun l => Nat.le_refl _)
theorem opnCutsU (N : Nat) : OpnU N Tryz.prog 37 (cL 1 cI) (fun l => True) (fun l => l.length + 1) := by
  have h := OpnU.slice (OpnU.int (N := N) (P := Tryz.prog) Tryz.underlying3 (by kernel_rfl)) Tryz.underlying37 (by kernel_rfl) (by kernel_rfl)
  rw [show Tryz.prog.cellsOf 3 = 1 by kernel_rfl] at h
  refine (h.less (Nat.le_succ N)).map id (fun l => by rw [show Tryz.prog.cellsOf 37 = 1 by kernel_rfl]; rfl) (fun _ => rfl) (fun _ _ => trivial) (fun l => ?_)
  have : ∀ m : List Int, (m.map (fun _ : Int => 1)).sum = m.length := fun m => by induction m with
    | nil => rfl
    | cons a r ih => rw [List.map_cons, List.sum_cons, ih, List.length_cons]; omega
  have e := this l
  show l.length + 1 ≤ _
  omega
theorem lwPiecesU (l : List Ms.Req) (cuts : List Int) (h : ∀ r ∈ l, Ms.Okz r) (hb : Ms.sm Ms.bR l + 1 ≤ 1048576) (hc : cuts.length + 1 ≤ 1048576) : CFn Tryz.prog 4 [TSl 21 Ms.cReq l, TSl 1 cI cuts] (Is (.bool true)) :=
  lwPieces26 l cuts (fun r hr => Ss.okr_bulk (h r hr) (by have := Ss.bR_at hr; omega)) (by have := Ss.bR_len l; omega) (by omega)
end Go.Proofs.YtkpghepeagafoaaGreat
