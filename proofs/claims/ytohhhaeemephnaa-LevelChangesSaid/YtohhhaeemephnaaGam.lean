/-
  The contracts of octet's Writer and of the document's numbers and bytes.
  The contract of the program's Pick.
  The contracts of the laws' own functions: heavy, files, same, known.
  The contracts of the document's key, ahead, one and Is.
  The contracts of the document's Over, at and Pick.
  The contracts of Encode, the program's and the document's.
  The contracts of octet's Reader and of the document's reader.
  The contract of the document's Reader.Bytes.
-/
import Derived.Test.YtohhhaeemephnaaRows
import Derived.Test.YtohhhaeemephnaaGag
import Derived.Test.YtohhhaeemephnaaGak
import Derived.Test.YtohhhaeemephnaaGal
set_option linter.unusedSimpArgs false
set_option linter.unusedVariables false
set_option maxRecDepth 8000
set_option linter.unusedVariables false
namespace Go.Proofs.Ytohhhaeemephnaa
open Go.Vk
attribute [local irreducible] HT HX RegS RegA RegM OpP OpC AltT
/-- A Writer that holds l. -/
abbrev WX (g : Nat) (l : List UInt8) : Res := packR fun v : Value => [ownP g 64 [TAnd (Is v) (TBytes l)], ownSl v 1 5]
abbrev cN (n : Nat) : List Ty := [okI .i64 (n : Int)]
theorem wrNums (g : Nat) (l : List UInt8) (n : Nat) (hn : n ≤ 4611686018427387904) (hl : l.length ≤ 134217728) : CallsC Try.prog 32 [Is (pAt g 0), TSl 1 cN [n]] [WX g l] (fun _ => TTup []) (fun _ => [WX g (l ++ Oct.numB n)]) := by
  refine CallsC.of Try.call32 Try.func32 rfl Try.ntmps32 rfl fun w0 G0 S0 hs ho => ?_
  refine HT.unpack 0 rfl fun v => ?_
  refine run ?_
  intro _
  refine HT.loopX (σ := Nat × List UInt8) [0, 9, 10] (fun t => [(11, okI .i64 (t.1 : Int))]) (fun t => [WX g t.2]) (fun t => t.1 ≤ 1 ∧ t.2 = if t.1 = 0 then l else l ++ Oct.numB n) (fun t => 1 - t.1) (0, l) ⟨Nat.zero_le _, rfl⟩ (run trivial) (run trivial) ?_
  rintro ⟨i, q⟩ ⟨hi, hq0⟩
  have hb := Oct.numB_le hn
  have hlen : ([n] : List Nat).length = 1 := rfl
  dsimp only at hi hq0 ⊢
  rcases (by omega : i = 0 ∨ i = 1) with rfl | rfl
  · have hq1 : q = l := hq0
    subst hq1
    have h0 : ((([n].getD 0 0 : Nat) : Int)) = n := rfl
    refine run ?_
    intro _
    refine HT.loopX (σ := Nat × List UInt8) [0, 9, 10, 11] (fun t => [(6, okI .u64 (t.1 : Int))]) (fun t => [WX g t.2]) (fun t => t.2 ++ Oct.numB t.1 = q ++ Oct.numB n ∧ t.1 ≤ n) (fun t => t.1) (n, q) ⟨rfl, Nat.le_refl _⟩ (run trivial) (run ?_) ?_
    · rw [show ([n].getD 0 default : Nat) = n from rfl]
      repeat' split
      all_goals omega
    rintro ⟨u, m⟩ ⟨he, hu⟩
    dsimp only at he hu ⊢
    have hm : m.length ≤ q.length + 9 := by
      have := congrArg List.length he
      simp only [List.length_append] at this
      omega
    refine HT.unpack 0 rfl fun v => ?_
    refine run ?_
    refine ⟨fun v' h1 => ?_, fun v' h1 => ?_⟩
    · exact HX.roundX (u / 128, m ++ [b8 (u : Int) ||| b8 128]) ⟨⟨(Oct.numB_snoc (by omega) m).trans he, by dsimp only; omega⟩, by dsimp only; omega⟩ rfl (run trivial) (run trivial)
    · have e : m ++ [b8 (u : Int)] = q ++ Oct.numB n := by rw [← he, Oct.numB_lt (by omega)]
      rw [e]
      exact HX.roundX (1, q ++ Oct.numB n) ⟨⟨Nat.le_refl _, rfl⟩, Nat.zero_lt_one⟩ rfl (run trivial) (run trivial)
  · have hq1 : q = l ++ Oct.numB n := hq0
    subst hq1
    refine HT.unpack 0 rfl fun v => ?_
    exact run trivial
theorem wrRaw (g : Nat) (l m : List UInt8) (hl : l.length + m.length ≤ 134217728) : CallsC Try.prog 53 [Is (pAt g 0), TBytes m] [WX g l] (fun _ => TTup []) (fun _ => [WX g (l ++ m)]) := by
  refine CallsC.of Try.call53 Try.func53 rfl Try.ntmps53 rfl fun w0 G0 S0 hs ho => ?_
  refine HT.unpack 0 rfl fun v => ?_
  exact run trivial
theorem wrClone (m : List UInt8) (hl : m.length ≤ 134217728) : CFn Try.prog 54 [TBytes m] (TBytes m) := by
  refine CallsC.of Try.call54 Try.func54 rfl Try.ntmps54 rfl fun w0 G0 S0 hs ho => ?_
  refine run ?_
  exact ⟨Eq.symm, rfl⟩
theorem rfNum (n : Nat) (hn : n ≤ 4611686018427387904) : CallsC Try.prog 35 [okI .i64 (n : Int)] [] (fun v => TAnd (Is v) (TBytes (Oct.numB n))) (fun v => [ownSl v 1 5]) := by
  have hb := Oct.numB_le hn
  refine CallsC.of Try.call35 Try.func35 rfl Try.ntmps35 rfl fun w0 G0 S0 hs ho => ?_
  refine run ?_
  and_intros
  all_goals intros
  · refine HT.loopX (σ := Nat × List UInt8 × Value) [2] (fun t => [(3, okI .u64 (t.1 : Int)), (4, TAnd (Is t.2.2) (TBytes t.2.1))]) (fun t => [ownSl t.2.2 1 5]) (fun t => t.2.1 ++ Oct.numB t.1 = Oct.numB n ∧ t.1 ≤ n) (fun t => t.1) (n, [], .slice none 0 0) ⟨rfl, Nat.le_refl _⟩ (run trivial) (run trivial) ?_
    rintro ⟨u, m, v⟩ ⟨he, hu⟩
    dsimp only at he hu ⊢
    have hm : m.length ≤ 9 := by
      have := congrArg List.length he
      simp only [List.length_append] at this
      omega
    refine run ?_
    refine ⟨fun v' h1 => ?_, fun v' h1 => ?_⟩
    · exact HX.roundX (u / 128, m ++ [b8 ((u : Int) % 128) ||| b8 128], v') ⟨⟨(Oct.numB_snoc7 (by omega) m).trans he, by dsimp only; omega⟩, by dsimp only; omega⟩ rfl (run trivial) (run trivial)
    · rw [← he, Oct.numB_lt (by omega)]
  · have h0 : n = 0 := by omega
    subst h0
    refine HT.loopX (σ := Unit) [2] (fun t => [(3, okI .u64 0), (4, Is (.slice none 0 0))]) (fun t => []) (fun t => True) (fun t => 0) () trivial (run trivial) (run trivial) ?_
    intro _ _
    refine run ?_
    intro _ _
    rw [Oct.numB_lt (by decide)]
    rfl
theorem rfBytes (l : List UInt8) (hl : l.length ≤ 134217728) : CallsC Try.prog 36 [TBytes l] [] (fun v => TAnd (Is v) (TBytes (Oct.numB l.length ++ l))) (fun v => [ownSl v 1 5]) := by
  have c1 := rfNum
  have hb := Oct.numB_le (n := l.length) (by omega)
  refine CallsC.of Try.call36 Try.func36 rfl Try.ntmps36 rfl fun w0 G0 S0 hs ho => ?_
  exact run trivial
abbrev cTB (l : List UInt8) : List Ty := [TBytes l]
theorem subA {P : Program} {f : FuncId} {A B : List Ty} {L : List Res} {T : Value → Ty} {L' : Value → List Res} (h : CallsC P f B L T L') (s : TsSub A B) : CallsC P f A L T L' :=
  ⟨h.enter, fun vs w G S hs ho ha => h.calls vs w G S hs ho (ArgsT.sub s ha)⟩
theorem wrBytesL (g : Nat) (l : List UInt8) (ms : List (List UInt8)) (hl : l.length + (ms.flatMap Oct.bytB).length ≤ 134217000) (hm : ms.length ≤ 134217000) : CallsC Try.prog 33 [Is (pAt g 0), TSl 1 cTB ms] [WX g l] (fun _ => TTup []) (fun _ => [WX g (l ++ ms.flatMap Oct.bytB)]) := by
  have c1 := wrNums
  have c2 := wrRaw
  refine CallsC.of Try.call33 Try.func33 rfl Try.ntmps33 rfl fun w0 G0 S0 hs ho => ?_
  refine run ?_
  refine HT.loopX (σ := Nat × List UInt8) [0, 6, 7] (fun t => [(8, okI .i64 (t.1 : Int))]) (fun t => [WX g t.2]) (fun t => t.1 ≤ ms.length ∧ t.2 = l ++ (ms.take t.1).flatMap Oct.bytB) (fun t => ms.length - t.1) (0, l) ⟨Nat.zero_le _, by simp⟩ (run trivial) (run trivial) ?_
  rintro ⟨i, q⟩ ⟨hi, hq0⟩
  dsimp only at hi hq0 ⊢
  by_cases hlt : i < ms.length
  · have h1 := Oct.flat_snoc Oct.bytB hlt
    have h2 := Oct.flat_part (l := ms) Oct.bytB (i + 1)
    rw [h1, List.length_append] at h2
    have h3 : (Oct.bytB (ms.getD i default)).length = (Oct.numB (ms.getD i default).length).length + (ms.getD i default).length := by unfold Oct.bytB; rw [List.length_append]
    have h4 : q.length = l.length + ((ms.take i).flatMap Oct.bytB).length := by rw [hq0, List.length_append]
    refine run ?_
    rw [List.append_assoc]
    intro _
    exact HX.roundX (i + 1, q ++ (Oct.numB (ms.getD i default).length ++ ms.getD i default)) ⟨⟨by dsimp only; omega, by dsimp only; rw [h1, hq0, List.append_assoc]; rfl⟩, by dsimp only; omega⟩ rfl (run trivial) (run trivial)
  · have hq1 : q = l ++ ms.flatMap Oct.bytB := by rw [hq0, List.take_of_length_le (by omega)]
    subst hq1
    exact run trivial
theorem wrBytes1 (g : Nat) (l m : List UInt8) (hl : l.length + m.length ≤ 134000000) : CallsC Try.prog 33 [Is (pAt g 0), TSlX 1 (fun ts : List Ty => ts) [[TBytes m]]] [WX g l] (fun _ => TTup []) (fun _ => [WX g (l ++ Oct.bytB m)]) := by
  have h := Oct.numB_le (n := m.length) (by omega)
  have := wrBytesL g l [m] (by simp [Oct.bytB]; omega) (by simp)
  rw [show [m].flatMap Oct.bytB = Oct.bytB m by simp] at this
  exact subA this (by exact byQ)
theorem wrBytes2 (g : Nat) (l m n : List UInt8) (hl : l.length + m.length + n.length ≤ 134000000) : CallsC Try.prog 33 [Is (pAt g 0), TSlX 1 (fun ts : List Ty => ts) [[TBytes m], [TBytes n]]] [WX g l] (fun _ => TTup []) (fun _ => [WX g (l ++ (Oct.bytB m ++ Oct.bytB n))]) := by
  have h := Oct.numB_le (n := m.length) (by omega)
  have h' := Oct.numB_le (n := n.length) (by omega)
  have := wrBytesL g l [m, n] (by simp [Oct.bytB]; omega) (by simp)
  rw [show [m, n].flatMap Oct.bytB = Oct.bytB m ++ Oct.bytB n by simp] at this
  exact subA this (by exact byQ)
theorem rfBytB (l : List UInt8) (hl : l.length ≤ 134217728) : CallsC Try.prog 36 [TBytes l] [] (fun v => TAnd (Is v) (TBytes (Oct.bytB l))) (fun v => [ownSl v 1 5]) := rfBytes l hl
theorem wrOut (g : Nat) (l : List UInt8) (hl : l.length ≤ 134217728) : CallsC Try.prog 34 [Is (pAt g 0)] [WX g l] (fun _ => TBytes l) (fun _ => [empR]) := by
  have c1 := wrClone
  refine CallsC.of Try.call34 Try.func34 rfl Try.ntmps34 rfl fun w0 G0 S0 hs ho => ?_
  refine HT.unpack 0 rfl fun v => ?_
  exact run trivial
end Go.Proofs.Ytohhhaeemephnaa
set_option maxRecDepth 8000
set_option linter.unusedVariables false
namespace Go.Proofs.Ytohhhaeemephnaa
open Go.Vk
attribute [local irreducible] HT HX RegS RegA RegM OpP OpC AltT
attribute [local irreducible] Lv.overL Lv.hitF Lv.spanF Lv.span
theorem lvWithT (v : Lv.Ver) (n : Int) (f : Lv.File) (u : Value) (hl : v.files.length ≤ 100000) (hn : 0 ≤ n ∧ n ≤ 1000) : CallsC Try.prog 29 [TAgg (Lv.cVer v), okI .i64 n, TAnd (Is u) (TSl 5 (fun ts : List Ty => ts) [Lv.cFile f])] [ownSl u 5 31] (fun _ => TSl 5 Lv.cFile (Lv.withL v.files n [f])) (fun _ => [empR]) :=
  subA (lvWith v n [f] u hl (by simp) (by simp) hn) (TsSub.cons (Sub.refl _) (TsSub.cons (Sub.refl _) (TsSub.cons (Sub.own (Sub.slT rfl)) TsSub.nil)))
theorem op_shlC {P : Program} {L : List Res} {E : Env} {dst : Option Tmp} {ty : TypeId} {pos : String} {after : Array Edge} {gd : Option (Nat × Bool)} {y : Operand} {xt yt : TypeId} {k' : IntKind} {n r : Int} (hy : Opd E y = some (okI k' n)) (hn : 0 ≤ n ∧ n ≤ 64) (hr : (2 : Int) ^ n.toNat = r) (hb : InK .i64 r) : OpP P L E ⟨dst, .binOp .shl xt (.const (.int .i64 1)) y yt, ty, pos, after, gd⟩ (okI .i64 r) := by
  have := op_shl (P := P) (L := L) (E := E) (dst := dst) (ty := ty) (pos := pos) (after := after) (gd := gd) (xt := xt) (yt := yt) (k := .i64) (m := 1) (x := .const (.int .i64 1)) rfl hy hn (by rw [Int.one_mul, hr]; exact hb)
  rwa [Int.one_mul, hr] at this
attribute [local irreducible] Lv.cnts Lv.cnt Lv.mpL pk2 Lv.isV Lv.pickL Lv.pickV Lv.withL Lv.atL Lv.oldest
set_option maxHeartbeats 8000000 in
theorem lvPick (v : Lv.Ver) : CFn Try.prog 12 [TAgg (Lv.cVer v)] (TTup [TSl 5 Lv.cFile (Lv.pickV v).1, Is (.bool (Lv.pickV v).2)]) := by
  have c0 := lvIs v
  cases hN : Lv.isV v with
  | false =>
    rw [pick_0 hN]
    rw [hN] at c0
    refine CallsC.of Try.call12 Try.func12 rfl Try.ntmps12 rfl fun w0 G0 S0 hs ho => ?_
    exact run trivial
  | true =>
    rw [pick_1 hN]
    rw [hN] at c0
    have hV := Lv.isV_head hN
    have hlv : ∀ i, i < v.files.length → 0 ≤ (v.files.getD i default).level ∧ (v.files.getD i default).level ≤ 4 := fun i hi => (Lv.oneF_of (Lv.isV_one hN (Lv.mem_at hi))).2.1
    have c1 := lvLevels v hV.2.2.1 hlv
    have c2 := lvWith v
    have c3 := lvWithT v
    have hat := fun (n : Int) (hn : 0 ≤ n ∧ n ≤ 4) (j : Nat) => Lv.mpL_at keyInj (l := v.files) (by omega) hlv hn v.files.length (Nat.le_refl _) j
    simp only [Lv.cnt_full, List.take_length] at hat c1
    have hcl := fun n => Lv.at_len v.files n
    have hkd := plKeyed
    have mu := Mut.mk' [17, 75]
    refine CallsC.of Try.call12 Try.func12 rfl Try.ntmps12 rfl fun w0 G0 S0 hs ho => ?_
    refine run ?_
    refine ⟨fun vm va _ h0 => ?_, fun vm va _ h0 => ?_⟩
    · have hp : Lv.pickL v.files = (Lv.withL v.files 0 (Lv.atL v.files 0), true) := pickL_0 h0
      rw [hp]
      refine HT.loopX (σ := Nat × List Lv.File × Value) [1, 2, 3, 4, 5, 24] (fun t => [(6, TAnd (Is t.2.2) (TSl 5 Lv.cFile t.2.1)), (25, okI .i64 (t.1 : Int))]) (fun t => [MpR (sndM vm) v.files v.files.length, ownSl t.2.2 5 31]) (fun t => t.1 ≤ (Lv.atL v.files 0).length ∧ t.2.1 = (Lv.atL v.files 0).take t.1) (fun t => (Lv.atL v.files 0).length - t.1) (0, [], .slice none 0 0) ⟨Nat.zero_le _, rfl⟩ (run trivial) (run trivial) ?_
      rintro ⟨i, acc, u⟩ ⟨hi, ha⟩
      dsimp only at hi ha ⊢
      have hcl0 := hcl 0
      have hal : acc.length ≤ 1024 := by rw [ha, List.length_take]; omega
      by_cases hlt : i < (Lv.atL v.files 0).length
      · have hk := keyPl (a := 0) (b := (i : Int)) (by omega) (by omega)
        have hm := hat 0 (by omega) i (by omega)
        clear c3
        refine run ?_
        intro u' _
        exact HX.roundX (i + 1, acc ++ [Lv.mpL v.files v.files.length (pk2 0 (i : Int))], u') ⟨⟨by dsimp only; omega, by dsimp only; erw [hm]; exact take_snoc hlt ha⟩, by dsimp only; omega⟩ rfl (run trivial) (run trivial)
      · have ha' : acc = Lv.atL v.files 0 := by rw [ha, List.take_of_length_le (by omega)]
        subst ha'
        clear c3
        exact run trivial
    · refine HT.loopX (σ := Nat) [1, 4, 5] (fun t => [(8, okI .i64 (t : Int))]) (fun t => [MpR (sndM vm) v.files v.files.length, ownP (blk va) 55 [okI .i64 ((Lv.atL v.files 0).length : Int), okI .i64 ((Lv.atL v.files 1).length : Int), okI .i64 ((Lv.atL v.files 2).length : Int), okI .i64 ((Lv.atL v.files 3).length : Int), okI .i64 ((Lv.atL v.files 4).length : Int)]]) (fun t => 1 ≤ t ∧ t ≤ 4 ∧ (1 < t → ¬ 4 < ((Lv.atL v.files 1).length : Int)) ∧ (2 < t → ¬ 16 < ((Lv.atL v.files 2).length : Int)) ∧ (3 < t → ¬ 64 < ((Lv.atL v.files 3).length : Int))) (fun t => 4 - t) 1 (by omega) (run trivial) (run trivial) ?_
      rintro t ⟨ht1, ht2, ht3, ht4, ht5⟩
      rcases (by omega : t = 1 ∨ t = 2 ∨ t = 3 ∨ t = 4) with rfl | rfl | rfl | rfl
      · have hk := keyPl (a := 1) (b := 0) (by omega) (by omega)
        have hm0 := hat 1 (by omega) 0
        have hcl1 := hcl 1
        clear c2
        refine run ?_
        intro _
        refine ⟨okI .i64 4, fun _ => op_shlC rfl (by decide) (by decide) (InK.i64 (by decide)), ?_⟩
        refine run ?_
        refine ⟨fun hd => ?_, fun v9 hd => ?_⟩
        · exact HX.roundX 2 (by omega) rfl (run trivial) (run trivial)
        · rw [pickL_1 h0  (by omega)]
          refine HT.loopX (σ := Nat × Lv.File) [1, 2, 3, 4, 5, 8, 9, 56] (fun t => [(57, okI .i64 (t.1 : Int))]) (fun t => [MpR (sndM vm) v.files v.files.length, ownP (blk va) 55 [okI .i64 ((Lv.atL v.files 0).length : Int), okI .i64 ((Lv.atL v.files 1).length : Int), okI .i64 ((Lv.atL v.files 2).length : Int), okI .i64 ((Lv.atL v.files 3).length : Int), okI .i64 ((Lv.atL v.files 4).length : Int)], ownP (blk v9) 31 (Lv.cFile t.2)]) (fun t => t.1 ≤ (Lv.atL v.files 1).length ∧ t.2 = ((Lv.atL v.files 1).take t.1).foldl Lv.oldF ((Lv.atL v.files 1).getD 0 default)) (fun t => (Lv.atL v.files 1).length - t.1) (0, Lv.mpL v.files v.files.length (pk2 1 0)) ⟨Nat.zero_le _, hm0 (by omega)⟩ (run trivial) (run trivial) ?_
          rintro ⟨k, f⟩ ⟨hk1, hf⟩
          dsimp only at hk1 hf ⊢
          by_cases hlt : k < (Lv.atL v.files 1).length
          · have hk2 := keyPl (a := 1) (b := (k : Int)) (by omega) (by omega)
            have hm := hat 1 (by omega) k (by omega)
            refine run ?_
            refine ⟨fun _ _ hlt2 => ?_, fun _ _ hlt2 => ?_⟩
            · refine HX.roundX (k + 1, Lv.mpL v.files v.files.length (pk2 1 (k : Int))) ⟨⟨by dsimp only; omega, ?_⟩, by dsimp only; omega⟩ rfl (run trivial) (run trivial)
              erw [hm] at hlt2 ⊢
              rw [← old_step hlt, ← hf]
              exact (if_pos hlt2).symm
            · refine HX.roundX (k + 1, f) ⟨⟨by dsimp only; omega, ?_⟩, by dsimp only; omega⟩ rfl (run trivial) (run trivial)
              erw [hm] at hlt2
              dsimp only
              rw [← old_step hlt, ← hf]
              exact (if_neg hlt2).symm
          · have hf' : f = Lv.oldest (Lv.atL v.files 1) := by rw [hf, Lv.foldl_full _ _ hlt]; unfold Lv.oldest; rfl
            subst hf'
            refine run ?_
            intros
            rfl
      · have hk := keyPl (a := 2) (b := 0) (by omega) (by omega)
        have hm0 := hat 2 (by omega) 0
        have hcl1 := hcl 2
        clear c2
        refine run ?_
        intro _
        refine ⟨okI .i64 16, fun _ => op_shlC rfl (by decide) (by decide) (InK.i64 (by decide)), ?_⟩
        refine run ?_
        refine ⟨fun hd => ?_, fun v9 hd => ?_⟩
        · exact HX.roundX 3 (by omega) rfl (run trivial) (run trivial)
        · rw [pickL_2 h0 (by omega) (by omega)]
          refine HT.loopX (σ := Nat × Lv.File) [1, 2, 3, 4, 5, 8, 9, 56] (fun t => [(57, okI .i64 (t.1 : Int))]) (fun t => [MpR (sndM vm) v.files v.files.length, ownP (blk va) 55 [okI .i64 ((Lv.atL v.files 0).length : Int), okI .i64 ((Lv.atL v.files 1).length : Int), okI .i64 ((Lv.atL v.files 2).length : Int), okI .i64 ((Lv.atL v.files 3).length : Int), okI .i64 ((Lv.atL v.files 4).length : Int)], ownP (blk v9) 31 (Lv.cFile t.2)]) (fun t => t.1 ≤ (Lv.atL v.files 2).length ∧ t.2 = ((Lv.atL v.files 2).take t.1).foldl Lv.oldF ((Lv.atL v.files 2).getD 0 default)) (fun t => (Lv.atL v.files 2).length - t.1) (0, Lv.mpL v.files v.files.length (pk2 2 0)) ⟨Nat.zero_le _, hm0 (by omega)⟩ (run trivial) (run trivial) ?_
          rintro ⟨k, f⟩ ⟨hk1, hf⟩
          dsimp only at hk1 hf ⊢
          by_cases hlt : k < (Lv.atL v.files 2).length
          · have hk2 := keyPl (a := 2) (b := (k : Int)) (by omega) (by omega)
            have hm := hat 2 (by omega) k (by omega)
            refine run ?_
            refine ⟨fun _ _ hlt2 => ?_, fun _ _ hlt2 => ?_⟩
            · refine HX.roundX (k + 1, Lv.mpL v.files v.files.length (pk2 2 (k : Int))) ⟨⟨by dsimp only; omega, ?_⟩, by dsimp only; omega⟩ rfl (run trivial) (run trivial)
              erw [hm] at hlt2 ⊢
              rw [← old_step hlt, ← hf]
              exact (if_pos hlt2).symm
            · refine HX.roundX (k + 1, f) ⟨⟨by dsimp only; omega, ?_⟩, by dsimp only; omega⟩ rfl (run trivial) (run trivial)
              erw [hm] at hlt2
              dsimp only
              rw [← old_step hlt, ← hf]
              exact (if_neg hlt2).symm
          · have hf' : f = Lv.oldest (Lv.atL v.files 2) := by rw [hf, Lv.foldl_full _ _ hlt]; unfold Lv.oldest; rfl
            subst hf'
            refine run ?_
            intros
            rfl
      · have hk := keyPl (a := 3) (b := 0) (by omega) (by omega)
        have hm0 := hat 3 (by omega) 0
        have hcl1 := hcl 3
        clear c2
        refine run ?_
        intro _
        refine ⟨okI .i64 64, fun _ => op_shlC rfl (by decide) (by decide) (InK.i64 (by decide)), ?_⟩
        refine run ?_
        refine ⟨fun hd => ?_, fun v9 hd => ?_⟩
        · exact HX.roundX 4 (by omega) rfl (run trivial) (run trivial)
        · rw [pickL_3 h0 (by omega) (by omega) (by omega)]
          refine HT.loopX (σ := Nat × Lv.File) [1, 2, 3, 4, 5, 8, 9, 56] (fun t => [(57, okI .i64 (t.1 : Int))]) (fun t => [MpR (sndM vm) v.files v.files.length, ownP (blk va) 55 [okI .i64 ((Lv.atL v.files 0).length : Int), okI .i64 ((Lv.atL v.files 1).length : Int), okI .i64 ((Lv.atL v.files 2).length : Int), okI .i64 ((Lv.atL v.files 3).length : Int), okI .i64 ((Lv.atL v.files 4).length : Int)], ownP (blk v9) 31 (Lv.cFile t.2)]) (fun t => t.1 ≤ (Lv.atL v.files 3).length ∧ t.2 = ((Lv.atL v.files 3).take t.1).foldl Lv.oldF ((Lv.atL v.files 3).getD 0 default)) (fun t => (Lv.atL v.files 3).length - t.1) (0, Lv.mpL v.files v.files.length (pk2 3 0)) ⟨Nat.zero_le _, hm0 (by omega)⟩ (run trivial) (run trivial) ?_
          rintro ⟨k, f⟩ ⟨hk1, hf⟩
          dsimp only at hk1 hf ⊢
          by_cases hlt : k < (Lv.atL v.files 3).length
          · have hk2 := keyPl (a := 3) (b := (k : Int)) (by omega) (by omega)
            have hm := hat 3 (by omega) k (by omega)
            refine run ?_
            refine ⟨fun _ _ hlt2 => ?_, fun _ _ hlt2 => ?_⟩
            · refine HX.roundX (k + 1, Lv.mpL v.files v.files.length (pk2 3 (k : Int))) ⟨⟨by dsimp only; omega, ?_⟩, by dsimp only; omega⟩ rfl (run trivial) (run trivial)
              erw [hm] at hlt2 ⊢
              rw [← old_step hlt, ← hf]
              exact (if_pos hlt2).symm
            · refine HX.roundX (k + 1, f) ⟨⟨by dsimp only; omega, ?_⟩, by dsimp only; omega⟩ rfl (run trivial) (run trivial)
              erw [hm] at hlt2
              dsimp only
              rw [← old_step hlt, ← hf]
              exact (if_neg hlt2).symm
          · have hf' : f = Lv.oldest (Lv.atL v.files 3) := by rw [hf, Lv.foldl_full _ _ hlt]; unfold Lv.oldest; rfl
            subst hf'
            refine run ?_
            intros
            rfl
      · rw [pickL_4 h0 (by omega) (by omega) (by omega)]
        exact run trivial
end Go.Proofs.Ytohhhaeemephnaa
set_option maxRecDepth 8000
set_option linter.unusedVariables false
namespace Go.Proofs.Ytohhhaeemephnaa
open Go.Vk
attribute [local irreducible] HT HX RegS RegA RegM OpP OpC AltT
/-- What files weigh, together. -/
def lvW (f : Lv.File) : Int := 1 + (f.first.length : Int) + (f.last.length : Int)
def lvSum (l : List Lv.File) (i : Nat) : Int := ((l.take i).map lvW).sum
def lvHeavyB (l : List Lv.File) : Bool := (List.range l.length).any fun i => decide (10000 < lvSum l (i + 1)) || decide (100 < i)
theorem lvSum_succ {l : List Lv.File} {i : Nat} (h : i < l.length) : lvSum l (i + 1) = lvSum l i + lvW (l.getD i default) := by
  unfold lvSum
  rw [List.take_succ_eq_append_getElem h, List.map_append, List.sum_append, List.getD_eq_getElem?_getD, List.getElem?_eq_getElem h, Option.getD_some]
  simp
theorem lvHeavy_yes {l : List Lv.File} {i : Nat} (h : i < l.length) (k : 10000 < lvSum l (i + 1) ∨ 100 < (i : Int)) : lvHeavyB l = true := by
  unfold lvHeavyB
  rw [List.any_eq_true]
  refine ⟨i, List.mem_range.2 h, ?_⟩
  rw [Bool.or_eq_true, decide_eq_true_eq, decide_eq_true_eq]
  omega
theorem lvHeavy_no {l : List Lv.File} (h : ∀ i, i < l.length → ¬ (10000 < lvSum l (i + 1) ∨ 100 < (i : Int))) : lvHeavyB l = false := by
  cases e : lvHeavyB l with
  | false => rfl
  | true =>
    unfold lvHeavyB at e
    rw [List.any_eq_true] at e
    obtain ⟨i, hi, k⟩ := e
    rw [Bool.or_eq_true, decide_eq_true_eq, decide_eq_true_eq] at k
    exact (h i (List.mem_range.1 hi) (by omega)).elim
theorem lvW_def (f : Lv.File) : lvW f = 1 + (f.first.length : Int) + (f.last.length : Int) := rfl
attribute [local irreducible] lvSum lvW lvHeavyB
theorem lvHeavy (l : List Lv.File) (hl : ∀ i, i < l.length → Lv.Okf (l.getD i default)) : CFn Try.prog 10 [TSl 5 Lv.cFile l] (Is (.bool (lvHeavyB l))) := by
  refine CallsC.of Try.call10 Try.func10 rfl Try.ntmps10 rfl fun w0 G0 S0 hs ho => ?_
  refine run ?_
  refine HT.loopX (σ := Nat) [0] (fun i => [(3, okI .i64 (lvSum l i)), (4, okI .i64 (i : Int))]) (fun _ => []) (fun i => (i ≤ l.length ∧ i ≤ 101 ∧ 0 ≤ lvSum l i ∧ lvSum l i ≤ 10000) ∧ ∀ j, j < i → ¬ (10000 < lvSum l (j + 1) ∨ 100 < (j : Int))) (fun i => l.length - i) 0 ⟨⟨Nat.zero_le _, by omega, by unfold lvSum; simp, by unfold lvSum; simp⟩, by omega⟩ (run trivial) (run ?_) ?_
  · unfold lvSum; rfl
  rintro i ⟨⟨hi, hi2, hs0, hs⟩, hno⟩
  by_cases hlt : i < l.length
  · obtain ⟨_, _, _, h4, h5⟩ := hl i hlt
    have h1 := lvSum_succ hlt
    rw [lvW_def] at h1
    have h6 : lvSum l i + 1 + ((l.getD i default).first.length : Int) + ((l.getD i default).last.length : Int) = lvSum l (i + 1) := by omega
    refine run ?_
    rw [h6]
    refine ⟨fun _ h => (lvHeavy_yes hlt h).symm, fun _ h => ?_⟩
    refine HX.roundX (i + 1) ⟨⟨⟨by omega, by omega, by omega, by omega⟩, fun j hj => ?_⟩, by omega⟩ rfl (run trivial) (run trivial)
    rcases (by omega : j < i ∨ j = i) with hj | rfl
    · exact hno j hj
    · omega
  · have e : i = l.length := by omega
    subst e
    have := lvHeavy_no hno
    rw [this]
    exact run trivial
theorem file_allB (a b : Lv.File) : allB [decide (a.id = b.id), decide (a.level = b.level), decide (a.size = b.size), decide (a.first = b.first), decide (a.last = b.last)] = decide (a = b) := by
  rw [Bool.eq_iff_iff, decide_eq_true_eq]
  simp only [allB, Bool.and_eq_true, decide_eq_true_eq]
  constructor
  · intro h
    cases a; cases b
    simp only at h
    simp [h]
  · rintro rfl; simp
theorem files_ext {α : Type} [Inhabited α] {a b : List α} (h : a.length = b.length) (k : ∀ j, j < a.length → a.getD j default = b.getD j default) : a = b := by
  apply List.ext_getElem h
  intro j h1 h2
  have := k j h1
  rwa [List.getD_eq_getElem?_getD, List.getElem?_eq_getElem h1, Option.getD_some, List.getD_eq_getElem?_getD, List.getElem?_eq_getElem h2, Option.getD_some] at this
theorem lvFiles (a b : List Lv.File) (ha : a.length ≤ 100000) : CFn Try.prog 20 [TSl 5 Lv.cFile a, TSl 5 Lv.cFile b] (Is (.bool (decide (a = b)))) := by
  refine CallsC.of Try.call20 Try.func20 rfl Try.ntmps20 rfl fun w0 G0 S0 hs ho => ?_
  refine run ?_
  refine ⟨fun h => (decide_eq_false (fun e => h (by rw [e]))).symm, fun h => ?_⟩
  have hab : a.length = b.length := by omega
  refine HT.loopX (σ := Nat) [0, 1] (fun i => [(5, okI .i64 (i : Int))]) (fun _ => []) (fun i => i ≤ a.length ∧ ∀ j, j < i → a.getD j default = b.getD j default) (fun i => a.length - i) 0 ⟨Nat.zero_le _, by omega⟩ (run trivial) (run trivial) ?_
  rintro i ⟨hi, he⟩
  by_cases hlt : i < a.length
  · refine run ?_
    rw [file_allB]
    refine ⟨fun _ h1 => ?_, fun _ h1 => ?_⟩
    · have h2 := of_decide_eq_false h1
      exact (decide_eq_false (fun e => h2 (by rw [e]))).symm
    · refine HX.roundX (i + 1) ⟨⟨by omega, fun j hj => ?_⟩, by omega⟩ rfl (run trivial) (run trivial)
      rcases (by omega : j < i ∨ j = i) with hj | rfl
      · exact he j hj
      · exact of_decide_eq_true h1
  · have : a = b := files_ext hab fun j hj => he j (by omega)
    rw [decide_eq_true this]
    exact run trivial
theorem lvSame (a b : Lv.Ver) (ha : a.files.length ≤ 100000) : CFn Try.prog 23 [TAgg (Lv.cVer a), TAgg (Lv.cVer b)] (Is (.bool (decide (a = b)))) := by
  have c1 := lvFiles a.files b.files ha
  refine CallsC.of Try.call23 Try.func23 rfl Try.ntmps23 rfl fun w0 G0 S0 hs ho => ?_
  refine run ?_
  rw [← Bool.decide_and]
  exact decide_eq_decide.2 ⟨fun h => by cases a; cases b; cases h.1; cases h.2; rfl, fun h => by rw [h]; exact ⟨rfl, rfl⟩⟩
/-- The files of 'known'. -/
def knF (i : Int) : Lv.File := ⟨i, 0, 10, [97], [98]⟩
def kn : List Lv.File := [knF 1, knF 2, knF 3, knF 4]
theorem kn_pick : Lv.pickV ⟨5, kn⟩ = (kn, true) := by decide +kernel
attribute [local irreducible] Lv.pickV
theorem lvKnown : CFn Try.prog 13 [] (Is (.bool true)) := by
  have c1 := lvPick ⟨5, kn⟩
  rw [kn_pick] at c1
  have c2 := lvFiles kn kn (by decide)
  rw [decide_eq_true rfl] at c2
  refine CallsC.of Try.call13 Try.func13 rfl Try.ntmps13 rfl fun w0 G0 S0 hs ho => ?_
  refine run ?_
  refine HT.loopX (σ := Nat × List Lv.File × Value) [0] (fun t => [(1, TAnd (Is t.2.2) (TSl 5 Lv.cFile t.2.1)), (2, okI .i64 (t.1 : Int))]) (fun t => [ownSl t.2.2 5 31]) (fun t => (1 ≤ t.1 ∧ t.1 ≤ 5) ∧ t.2.1 = kn.take (t.1 - 1)) (fun t => 5 - t.1) (1, [], .slice none 0 0) ⟨by dsimp only; omega, rfl⟩ (run trivial) (run trivial) ?_
  rintro ⟨i, acc, u⟩ ⟨hi, ha⟩
  dsimp only at hi ha ⊢
  have hal : acc.length ≤ 4 := by rw [ha, List.length_take]; exact Nat.min_le_right _ _
  by_cases hlt : i ≤ 4
  · refine run ?_
    intro u' _
    refine HX.roundX (i + 1, acc ++ [knF (i : Int)], u') ⟨⟨by dsimp only; omega, ?_⟩, by dsimp only; omega⟩ rfl (run trivial) (run trivial)
    dsimp only
    rw [ha]
    rcases (by omega : i = 1 ∨ i = 2 ∨ i = 3 ∨ i = 4) with rfl | rfl | rfl | rfl <;> rfl
  · have e : i = 5 := by omega
    subst e
    have ha' : acc = kn := ha
    subst ha'
    refine run ?_
    intro _
    rfl
end Go.Proofs.Ytohhhaeemephnaa
set_option maxRecDepth 8000
set_option linter.unusedVariables false
namespace Go.Proofs.Ytohhhaeemephnaa
open Go.Vk
attribute [local irreducible] HT HX RegS RegA RegM OpP OpC AltT
theorem rlKey (s : List UInt8) : CFn Try.prog 52 [Is (str s)] (Is (.bool (Lv.keyB s))) := by
  unfold Lv.keyB
  refine CallsC.of Try.call52 Try.func52 rfl Try.ntmps52 rfl fun w0 G0 S0 hs ho => ?_
  exact run trivial
theorem rlAhead (a b : Lv.File) : CFn Try.prog 27 [TAgg (Lv.cFile a), TAgg (Lv.cFile b)] (Is (.bool (Lv.ahead a b))) := by
  unfold Lv.ahead
  refine CallsC.of Try.call27 Try.func27 rfl Try.ntmps27 rfl fun w0 G0 S0 hs ho => ?_
  refine run ?_
  and_intros
  all_goals intros
  all_goals grind
theorem rlOne (f : Lv.File) (n : Int) : CFn Try.prog 26 [TAgg (Lv.cFile f), okI .i64 n] (Is (.bool (Lv.oneF f n))) := by
  have c1 := rlKey
  have e := sle_eq f.first f.last
  unfold Lv.oneF
  rw [← e]
  refine CallsC.of Try.call26 Try.func26 rfl Try.ntmps26 rfl fun w0 G0 S0 hs ho => ?_
  exact run trivial
attribute [local irreducible] Lv.oneF Lv.ahead Lv.keyB Lv.isV Lv.seenV Lv.uptoV
set_option maxHeartbeats 2000000 in
theorem rl11Is (v : Lv.Ver) : CFn Try.prog 11 [TAgg (Lv.cVer v)] (Is (.bool (Lv.isV v))) := by
  have c1 := rlOne
  have c2 := rlAhead
  refine CallsC.of Try.call11 Try.func11 rfl Try.ntmps11 rfl fun w0 G0 S0 hs ho => ?_
  refine run ?_
  refine ⟨fun h => (Lv.isV_no0 h).symm, fun h => ?_⟩
  refine HT.loopX (σ := Nat) [1] (fun i => [(3, okI .i64 (i : Int))]) (fun _ => []) (fun i => i ≤ v.files.length ∧ Lv.uptoV v.files v.next i = true) (fun i => v.files.length - i) 0 ⟨Nat.zero_le _, Lv.upto_0 _ _⟩ (run trivial) (run trivial) ?_
  rintro i ⟨hi, hu⟩
  by_cases hlt : i < v.files.length
  · have hse := Lv.step_eq v.files v.next i
    refine run ?_
    refine ⟨fun v1 _ h1 => ?_, fun v1 _ h1 => ?_⟩
    · exact (Lv.isV_no1 hlt (by rw [hse, h1]; rfl)).symm
    refine HT.loopX (σ := Nat) [1, 3, 4] (fun k => [(5, okI .i64 (k : Int))]) (fun k => [ownP (blk v1) 31 (Lv.cFile (v.files.getD i default))]) (fun k => k ≤ i ∧ Lv.seenV v.files k (v.files.getD i default).id = false) (fun k => i - k) 0 ⟨Nat.zero_le _, Lv.seen_0 _ _⟩ (run trivial) (run trivial) ?_
    rintro k ⟨hk, hq1⟩
    by_cases hkt : k < i
    · have h2 := Lv.seen_succ (l := v.files) (i := k) (by omega) (v.files.getD i default).id
      have h3 := fun e => Lv.seen_le (l := v.files) (i := i) (k := k) (n := (v.files.getD i default).id) hkt hi e
      refine run ?_
      refine ⟨fun _ h4 => (Lv.isV_no1 hlt (by rw [hse, h3 h4]; simp)).symm, fun _ h4 => ?_⟩
      exact HX.roundX (k + 1) ⟨⟨by omega, by rw [h2, hq1, decide_eq_false h4]; rfl⟩, by omega⟩ rfl (run trivial) (run trivial)
    · have e : k = i := by omega
      subst e
      have e2 : ((k : Int) - 1).toNat = k - 1 := by omega
      refine run ?_
      rw [e2]
      rw [h1, hq1] at hse
      unfold Lv.linkF Go.Vk.sle at hse
      refine ⟨fun _ h4 => (Lv.isV_no1 hlt ?_).symm, fun _ h4 => ?_⟩
      · rw [hse, decide_eq_false (by omega)]
        rcases h4.2 with h5 | ⟨⟨h5, h6⟩, h7⟩
        · rw [h5]; rfl
        · rw [decide_eq_true h5, decide_eq_true h6, h7]; simp
      · refine HX.roundX (k + 1) ⟨⟨by omega, ?_⟩, by omega⟩ rfl (run trivial) (run trivial)
        rw [Lv.upto_succ, hu, hse]
        rcases h4 with h5 | ⟨h5, (h6 | h6) | h6⟩
        · rw [decide_eq_true (show k = 0 by omega)]; rfl
        · rw [h5, decide_eq_false h6]; simp
        · rw [h5, decide_eq_false h6]; simp
        · rw [h5, h6]; simp
  · have := Lv.isV_yes h hlt hi hu
    rw [this]
    exact run trivial
end Go.Proofs.Ytohhhaeemephnaa
set_option maxRecDepth 8000
set_option linter.unusedVariables false
namespace Go.Proofs.Ytohhhaeemephnaa
open Go.Vk
attribute [local irreducible] HT HX RegS RegA RegM OpP OpC AltT
attribute [local irreducible] Lv.overL Lv.hitF Lv.atL
theorem rl11Over (v : Lv.Ver) (n : Int) (a b : List UInt8) (hl : v.files.length ≤ 100000) : CFn Try.prog 14 [TAgg (Lv.cVer v), okI .i64 n, Is (str a), Is (str b)] (TSl 5 Lv.cFile (Lv.overL v.files n a b)) := by
  refine CallsC.of Try.call14 Try.func14 rfl Try.ntmps14 rfl fun w0 G0 S0 hs ho => ?_
  refine run ?_
  refine HT.loopX (σ := Nat × List Lv.File × Value) [1, 2, 3, 4, 8] (fun t => [(9, TAnd (Is t.2.2) (TSl 5 Lv.cFile t.2.1)), (10, okI .i64 (t.1 : Int))]) (fun t => [ownSl t.2.2 5 31]) (fun t => t.1 ≤ v.files.length ∧ t.2.1 = (v.files.take t.1).filter (Lv.hitF n a b) ∧ t.2.1.length ≤ t.1) (fun t => v.files.length - t.1) (0, [], .slice none 0 0) ⟨Nat.zero_le _, rfl, Nat.le_refl _⟩ (run trivial) (run trivial) ?_
  rintro ⟨i, acc, u⟩ ⟨hi, ha, hal⟩
  dsimp only at hi ha hal ⊢
  by_cases hlt : i < v.files.length
  · refine run ?_
    refine ⟨fun _ u' _ h => ?_, fun _ _ h => ?_⟩
    · exact HX.roundX (i + 1, acc ++ [v.files.getD i default], u') ⟨⟨by dsimp only; omega, Lv.filter_yes hlt ha (hit_yes h), by dsimp only; rw [List.length_append]; simp; omega⟩, by dsimp only; omega⟩ rfl (run trivial) (run trivial)
    · exact HX.roundX (i + 1, acc, u) ⟨⟨by dsimp only; omega, Lv.filter_no hlt ha (hit_no h), by dsimp only; omega⟩, by dsimp only; omega⟩ rfl (run trivial) (run trivial)
  · have hf := Lv.filter_end hlt ha
    have hf' : acc = Lv.overL v.files n a b := hf.trans (by unfold Lv.overL; rfl)
    rw [← hf']
    exact run trivial
theorem rl11At (v : Lv.Ver) (n : Int) (hl : v.files.length ≤ 100000) : CallsC Try.prog 37 [TAgg (Lv.cVer v), okI .i64 n] [] (fun u => TAnd (Is u) (TSl 5 Lv.cFile (Lv.atL v.files n))) (fun u => [ownSl u 5 31]) := by
  refine CallsC.of Try.call37 Try.func37 rfl Try.ntmps37 rfl fun w0 G0 S0 hs ho => ?_
  refine run ?_
  refine HT.loopX (σ := Nat × List Lv.File × Value) [1, 2, 4] (fun t => [(5, TAnd (Is t.2.2) (TSl 5 Lv.cFile t.2.1)), (6, okI .i64 (t.1 : Int))]) (fun t => [ownSl t.2.2 5 31]) (fun t => t.1 ≤ v.files.length ∧ t.2.1 = (v.files.take t.1).filter (fun f => decide (f.level = n)) ∧ t.2.1.length ≤ t.1) (fun t => v.files.length - t.1) (0, [], .slice none 0 0) ⟨Nat.zero_le _, rfl, Nat.le_refl _⟩ (run trivial) (run trivial) ?_
  rintro ⟨i, acc, u⟩ ⟨hi, ha, hal⟩
  dsimp only at hi ha hal ⊢
  by_cases hlt : i < v.files.length
  · refine run ?_
    refine ⟨fun u' _ h => ?_, fun _ h => ?_⟩
    · exact HX.roundX (i + 1, acc ++ [v.files.getD i default], u') ⟨⟨by dsimp only; omega, Lv.filter_yes hlt ha (decide_eq_true h), by dsimp only; rw [List.length_append]; simp; omega⟩, by dsimp only; omega⟩ rfl (run trivial) (run trivial)
    · exact HX.roundX (i + 1, acc, u) ⟨⟨by dsimp only; omega, Lv.filter_no hlt ha (decide_eq_false h), by dsimp only; omega⟩, by dsimp only; omega⟩ rfl (run trivial) (run trivial)
  · have hf := Lv.filter_end hlt ha
    have hf' : acc = Lv.atL v.files n := hf.trans (by unfold Lv.atL; rfl)
    rw [← hf']
    exact run trivial
theorem withL_one (l : List Lv.File) (n : Int) (f : Lv.File) : Lv.withL l n [f] = [f] ++ Lv.overL l (n + 1) f.first f.last := by unfold Lv.withL; rw [Lv.span_one]
theorem withL_def (l : List Lv.File) (n : Int) (p : List Lv.File) : Lv.withL l n p = p ++ Lv.overL l (n + 1) (Lv.span p).1 (Lv.span p).2 := rfl
attribute [local irreducible] Lv.spanF Lv.span Lv.isV Lv.pickL Lv.pickV Lv.withL Lv.oldest
set_option maxHeartbeats 8000000 in
theorem rl11Pick (v : Lv.Ver) : CFn Try.prog 18 [TAgg (Lv.cVer v)] (TTup [TSl 5 Lv.cFile (Lv.pickV v).1, Is (.bool (Lv.pickV v).2)]) := by
  have c0 := rl11Is v
  cases hN : Lv.isV v with
  | false =>
    rw [pick_0 hN]
    rw [hN] at c0
    refine CallsC.of Try.call18 Try.func18 rfl Try.ntmps18 rfl fun w0 G0 S0 hs ho => ?_
    exact run trivial
  | true =>
    rw [pick_1 hN]
    rw [hN] at c0
    have hV := Lv.isV_head hN
    have c1 := rl11At v
    have c2 := rl11Over v
    have hcl := fun n => Lv.at_len v.files n
    have hol := fun n a b => Lv.over_len v.files n a b
    have hcl0 := hcl 0
    refine CallsC.of Try.call18 Try.func18 rfl Try.ntmps18 rfl fun w0 G0 S0 hs ho => ?_
    refine run ?_
    refine ⟨fun u0 _ h0 => ?_, fun u0 _ h0 => ?_⟩
    · rw [pickL_0 h0, withL_def, show (0 : Int) + 1 = 1 from rfl]
      have hol0 := hol 1 (Lv.span (Lv.atL v.files 0)).1 (Lv.span (Lv.atL v.files 0)).2
      refine HT.loopX (σ := Nat × (List UInt8 × List UInt8)) [1, 2, 3, 4] (fun t => [(5, Is (str t.2.1)), (6, Is (str t.2.2)), (7, okI .i64 (t.1 : Int))]) (fun t => [ownSl u0 5 31]) (fun t => t.1 ≤ (Lv.atL v.files 0).length ∧ t.2 = ((Lv.atL v.files 0).take t.1).foldl Lv.spanF (Lv.span0 (Lv.atL v.files 0))) (fun t => (Lv.atL v.files 0).length - t.1) (0, Lv.span0 (Lv.atL v.files 0)) ⟨Nat.zero_le _, rfl⟩ (run trivial) (run ?_) ?_
      · exact ⟨rfl, rfl⟩
      rintro ⟨i, s⟩ ⟨hi, hs⟩
      dsimp only at hi hs ⊢
      by_cases hlt : i < (Lv.atL v.files 0).length
      · refine run ?_
        intro _
        refine HX.roundX (i + 1, Lv.spanF s ((Lv.atL v.files 0).getD i default)) ⟨⟨by dsimp only; omega, by dsimp only; rw [hs]; exact span_step hlt⟩, by dsimp only; omega⟩ rfl (run trivial) (by rw [span_eq]; exact run trivial)
      · have hs' : s = Lv.span (Lv.atL v.files 0) := by
          rw [hs, Lv.foldl_full _ _ hlt]
          unfold Lv.span; rfl
        subst hs'
        exact run trivial
    · refine HT.loopX (σ := Nat × Int) [1] (fun t => [(8, okI .i64 t.2), (9, okI .i64 (t.1 : Int))]) (fun t => []) (fun t => (1 ≤ t.1 ∧ t.1 ≤ 4 ∧ (1 < t.1 → ¬ 4 < ((Lv.atL v.files 1).length : Int)) ∧ (2 < t.1 → ¬ 16 < ((Lv.atL v.files 2).length : Int)) ∧ (3 < t.1 → ¬ 64 < ((Lv.atL v.files 3).length : Int))) ∧ t.2 = if t.1 = 1 then 1 else if t.1 = 2 then 4 else if t.1 = 3 then 16 else 64) (fun t => 4 - t.1) (1, 1) ⟨by dsimp only; omega, rfl⟩ (run trivial) (run trivial) ?_
      rintro ⟨t, most⟩ ⟨⟨ht1, ht2, ht3, ht4, ht5⟩, hm⟩
      dsimp only at ht1 ht2 ht3 ht4 ht5 hm ⊢
      rcases (by omega : t = 1 ∨ t = 2 ∨ t = 3 ∨ t = 4) with rfl | rfl | rfl | rfl
      · have hm' : most = 1 := hm
        subst hm'
        have hcl1 := hcl 1
        have c1n := rl11At v 1 (by omega)
        clear c1
        refine run ?_
        refine ⟨fun u1 _ hd => ?_, fun u1 v11 _ hd => ?_⟩
        · exact HX.roundX (2, 4) ⟨by dsimp only; omega, by dsimp only; omega⟩ rfl (run trivial) (run trivial)
        · rw [pickL_1 h0  (by omega), withL_one]
          have hol0 := hol (((1 : Nat) : Int) + 1) (Lv.oldest (Lv.atL v.files 1)).first (Lv.oldest (Lv.atL v.files 1)).last
          refine HT.loopX (σ := Nat × Lv.File) [1, 2, 3, 8, 9, 10, 11] (fun t => [(12, okI .i64 (t.1 : Int))]) (fun t => [ownSl u1 5 31, ownP (blk v11) 31 (Lv.cFile t.2)]) (fun t => t.1 ≤ (Lv.atL v.files 1).length ∧ t.2 = ((Lv.atL v.files 1).take t.1).foldl Lv.oldF ((Lv.atL v.files 1).getD 0 default)) (fun t => (Lv.atL v.files 1).length - t.1) (0, (Lv.atL v.files 1).getD 0 default) ⟨Nat.zero_le _, rfl⟩ (run trivial) (run trivial) ?_
          rintro ⟨k, f⟩ ⟨hk1, hf⟩
          dsimp only at hk1 hf ⊢
          by_cases hlt : k < (Lv.atL v.files 1).length
          · refine run ?_
            refine ⟨fun _ hlt2 => ?_, fun _ hlt2 => ?_⟩
            · refine HX.roundX (k + 1, (Lv.atL v.files 1).getD k default) ⟨⟨by dsimp only; omega, ?_⟩, by dsimp only; omega⟩ rfl (run trivial) (run trivial)
              dsimp only
              rw [← old_step hlt, ← hf]
              exact (if_pos hlt2).symm
            · refine HX.roundX (k + 1, f) ⟨⟨by dsimp only; omega, ?_⟩, by dsimp only; omega⟩ rfl (run trivial) (run trivial)
              dsimp only
              rw [← old_step hlt, ← hf]
              exact (if_neg hlt2).symm
          · have hf' : f = Lv.oldest (Lv.atL v.files 1) := by rw [hf, Lv.foldl_full _ _ hlt]; unfold Lv.oldest; rfl
            subst hf'
            exact run trivial
      · have hm' : most = 4 := hm
        subst hm'
        have hcl1 := hcl 2
        have c1n := rl11At v 2 (by omega)
        clear c1
        refine run ?_
        refine ⟨fun u1 _ hd => ?_, fun u1 v11 _ hd => ?_⟩
        · exact HX.roundX (3, 16) ⟨by dsimp only; omega, by dsimp only; omega⟩ rfl (run trivial) (run trivial)
        · rw [pickL_2 h0 (by omega) (by omega), withL_one]
          have hol0 := hol (((2 : Nat) : Int) + 1) (Lv.oldest (Lv.atL v.files 2)).first (Lv.oldest (Lv.atL v.files 2)).last
          refine HT.loopX (σ := Nat × Lv.File) [1, 2, 3, 8, 9, 10, 11] (fun t => [(12, okI .i64 (t.1 : Int))]) (fun t => [ownSl u1 5 31, ownP (blk v11) 31 (Lv.cFile t.2)]) (fun t => t.1 ≤ (Lv.atL v.files 2).length ∧ t.2 = ((Lv.atL v.files 2).take t.1).foldl Lv.oldF ((Lv.atL v.files 2).getD 0 default)) (fun t => (Lv.atL v.files 2).length - t.1) (0, (Lv.atL v.files 2).getD 0 default) ⟨Nat.zero_le _, rfl⟩ (run trivial) (run trivial) ?_
          rintro ⟨k, f⟩ ⟨hk1, hf⟩
          dsimp only at hk1 hf ⊢
          by_cases hlt : k < (Lv.atL v.files 2).length
          · refine run ?_
            refine ⟨fun _ hlt2 => ?_, fun _ hlt2 => ?_⟩
            · refine HX.roundX (k + 1, (Lv.atL v.files 2).getD k default) ⟨⟨by dsimp only; omega, ?_⟩, by dsimp only; omega⟩ rfl (run trivial) (run trivial)
              dsimp only
              rw [← old_step hlt, ← hf]
              exact (if_pos hlt2).symm
            · refine HX.roundX (k + 1, f) ⟨⟨by dsimp only; omega, ?_⟩, by dsimp only; omega⟩ rfl (run trivial) (run trivial)
              dsimp only
              rw [← old_step hlt, ← hf]
              exact (if_neg hlt2).symm
          · have hf' : f = Lv.oldest (Lv.atL v.files 2) := by rw [hf, Lv.foldl_full _ _ hlt]; unfold Lv.oldest; rfl
            subst hf'
            exact run trivial
      · have hm' : most = 16 := hm
        subst hm'
        have hcl1 := hcl 3
        have c1n := rl11At v 3 (by omega)
        clear c1
        refine run ?_
        refine ⟨fun u1 _ hd => ?_, fun u1 v11 _ hd => ?_⟩
        · exact HX.roundX (4, 64) ⟨by dsimp only; omega, by dsimp only; omega⟩ rfl (run trivial) (run trivial)
        · rw [pickL_3 h0 (by omega) (by omega) (by omega), withL_one]
          have hol0 := hol (((3 : Nat) : Int) + 1) (Lv.oldest (Lv.atL v.files 3)).first (Lv.oldest (Lv.atL v.files 3)).last
          refine HT.loopX (σ := Nat × Lv.File) [1, 2, 3, 8, 9, 10, 11] (fun t => [(12, okI .i64 (t.1 : Int))]) (fun t => [ownSl u1 5 31, ownP (blk v11) 31 (Lv.cFile t.2)]) (fun t => t.1 ≤ (Lv.atL v.files 3).length ∧ t.2 = ((Lv.atL v.files 3).take t.1).foldl Lv.oldF ((Lv.atL v.files 3).getD 0 default)) (fun t => (Lv.atL v.files 3).length - t.1) (0, (Lv.atL v.files 3).getD 0 default) ⟨Nat.zero_le _, rfl⟩ (run trivial) (run trivial) ?_
          rintro ⟨k, f⟩ ⟨hk1, hf⟩
          dsimp only at hk1 hf ⊢
          by_cases hlt : k < (Lv.atL v.files 3).length
          · refine run ?_
            refine ⟨fun _ hlt2 => ?_, fun _ hlt2 => ?_⟩
            · refine HX.roundX (k + 1, (Lv.atL v.files 3).getD k default) ⟨⟨by dsimp only; omega, ?_⟩, by dsimp only; omega⟩ rfl (run trivial) (run trivial)
              dsimp only
              rw [← old_step hlt, ← hf]
              exact (if_pos hlt2).symm
            · refine HX.roundX (k + 1, f) ⟨⟨by dsimp only; omega, ?_⟩, by dsimp only; omega⟩ rfl (run trivial) (run trivial)
              dsimp only
              rw [← old_step hlt, ← hf]
              exact (if_neg hlt2).symm
          · have hf' : f = Lv.oldest (Lv.atL v.files 3) := by rw [hf, Lv.foldl_full _ _ hlt]; unfold Lv.oldest; rfl
            subst hf'
            exact run trivial
      · rw [pickL_4 h0 (by omega) (by omega) (by omega)]
        exact run trivial
end Go.Proofs.Ytohhhaeemephnaa
set_option maxRecDepth 8000
set_option linter.unusedVariables false
namespace Go.Proofs.Ytohhhaeemephnaa
open Go.Vk
attribute [local irreducible] HT HX RegS RegA RegM OpP OpC AltT
theorem wrNumsL (g : Nat) (l : List UInt8) (ms : List Nat) (hm : ∀ m ∈ ms, m ≤ 4611686018427387904) (hk : ms.length ≤ 1000) (hl : l.length ≤ 134000000) : CallsC Try.prog 32 [Is (pAt g 0), TSl 1 cN ms] [WX g l] (fun _ => TTup []) (fun _ => [WX g (l ++ ms.flatMap Oct.numB)]) := by
  have hmm : ∀ i, i < ms.length → ms.getD i default ≤ 4611686018427387904 := fun i hi => hm _ (Lv.getD_mem hi)
  have hf : ∀ i, ((ms.take i).flatMap Oct.numB).length ≤ 9000 := fun i => Nat.le_trans (Oct.flat_part Oct.numB i) (Nat.le_trans (Lv.flat_le (c := 9) ms (fun m h => Lv.numB_le9 (hm m h))) (by omega))
  refine CallsC.of Try.call32 Try.func32 rfl Try.ntmps32 rfl fun w0 G0 S0 hs ho => ?_
  refine HT.unpack 0 rfl fun v => ?_
  refine run ?_
  intro _
  refine HT.loopX (σ := Nat × List UInt8) [0, 9, 10] (fun t => [(11, okI .i64 (t.1 : Int))]) (fun t => [WX g t.2]) (fun t => t.1 ≤ ms.length ∧ t.2 = l ++ (ms.take t.1).flatMap Oct.numB) (fun t => ms.length - t.1) (0, l) ⟨Nat.zero_le _, by simp⟩ (run trivial) (run trivial) ?_
  rintro ⟨i, q⟩ ⟨hi, hq0⟩
  dsimp only at hi hq0 ⊢
  have hfi := hf i
  have hq2 : q.length ≤ l.length + 9000 := by rw [hq0, List.length_append]; omega
  by_cases hlt : i < ms.length
  · have hn := hmm i hlt
    have hb := Oct.numB_le hn
    have hsn := Oct.flat_snoc Oct.numB hlt
    have h0 : ((ms.getD i 0 : Nat) : Int) = ((ms.getD i default : Nat) : Int) := rfl
    refine run ?_
    intro _
    refine HT.loopX (σ := Nat × List UInt8) [0, 9, 10, 11] (fun t => [(6, okI .u64 (t.1 : Int))]) (fun t => [WX g t.2]) (fun t => t.2 ++ Oct.numB t.1 = q ++ Oct.numB (ms.getD i default) ∧ t.1 ≤ ms.getD i default) (fun t => t.1) (ms.getD i default, q) ⟨rfl, Nat.le_refl _⟩ (run trivial) (run trivial) ?_
    rintro ⟨u, m⟩ ⟨he, hu⟩
    dsimp only at he hu ⊢
    have hm : m.length ≤ q.length + 9 := by
      have := congrArg List.length he
      simp only [List.length_append] at this
      omega
    refine HT.unpack 0 rfl fun v => ?_
    refine run ?_
    refine ⟨fun v' h1 => ?_, fun v' h1 => ?_⟩
    · exact HX.roundX (u / 128, m ++ [b8 (u : Int) ||| b8 128]) ⟨⟨(Oct.numB_snoc (by omega) m).trans he, by dsimp only; omega⟩, by dsimp only; omega⟩ rfl (run trivial) (run trivial)
    · have e : m ++ [b8 (u : Int)] = q ++ Oct.numB (ms.getD i default) := by rw [← he, Oct.numB_lt (by omega)]
      rw [e]
      exact HX.roundX (i + 1, q ++ Oct.numB (ms.getD i default)) ⟨⟨by dsimp only; omega, by dsimp only; rw [hsn, hq0, List.append_assoc]⟩, by dsimp only; omega⟩ rfl (run trivial) (run trivial)
  · have hq1 : q = l ++ ms.flatMap Oct.numB := by rw [hq0, List.take_of_length_le (by omega)]
    subst hq1
    refine HT.unpack 0 rfl fun v => ?_
    exact run trivial
theorem cN_nat {n : Int} (h : 0 ≤ n) : cN n.toNat = [okI .i64 n] := by
  show [okI .i64 (n.toNat : Int)] = _
  rw [Int.toNat_of_nonneg h]
theorem subNat {ns : List Int} (h : ∀ n ∈ ns, 0 ≤ n) : Sub (TSlX 1 (fun ts : List Ty => ts) (ns.map fun n => [okI .i64 n])) (TSl 1 cN (ns.map Int.toNat)) := by
  have e : (ns.map fun n => [okI .i64 n]) = (ns.map Int.toNat).map cN := by
    rw [List.map_map]
    exact List.map_congr_left fun n hn => (cN_nat (h n hn)).symm
  rw [e]
  exact Sub.slxT rfl
theorem wrNums2 (g : Nat) (l : List UInt8) (a b : Int) (ha : 0 ≤ a ∧ a ≤ 4611686018427387904) (hb : 0 ≤ b ∧ b ≤ 4611686018427387904) (hl : l.length ≤ 134000000) : CallsC Try.prog 32 [Is (pAt g 0), TSlX 1 (fun ts : List Ty => ts) [[okI .i64 a], [okI .i64 b]]] [WX g l] (fun _ => TTup []) (fun _ => [WX g (l ++ (Lv.nB a ++ Lv.nB b))]) := by
  have := wrNumsL g l [a.toNat, b.toNat] (by intro m hm; simp at hm; omega) (by simp) hl
  rw [show [a.toNat, b.toNat].flatMap Oct.numB = Lv.nB a ++ Lv.nB b by simp [Lv.nB]] at this
  exact subA this (TsSub.cons (Sub.refl _) (TsSub.cons (subNat (ns := [a, b]) (by intro n hn; simp at hn; omega)) TsSub.nil))
theorem wrNums3 (g : Nat) (l : List UInt8) (a b c : Int) (ha : 0 ≤ a ∧ a ≤ 4611686018427387904) (hb : 0 ≤ b ∧ b ≤ 4611686018427387904) (hc : 0 ≤ c ∧ c ≤ 4611686018427387904) (hl : l.length ≤ 134000000) : CallsC Try.prog 32 [Is (pAt g 0), TSlX 1 (fun ts : List Ty => ts) [[okI .i64 a], [okI .i64 b], [okI .i64 c]]] [WX g l] (fun _ => TTup []) (fun _ => [WX g (l ++ (Lv.nB a ++ (Lv.nB b ++ Lv.nB c)))]) := by
  have := wrNumsL g l [a.toNat, b.toNat, c.toNat] (by intro m hm; simp at hm; omega) (by simp) hl
  rw [show [a.toNat, b.toNat, c.toNat].flatMap Oct.numB = Lv.nB a ++ (Lv.nB b ++ Lv.nB c) by simp [Lv.nB]] at this
  exact subA this (TsSub.cons (Sub.refl _) (TsSub.cons (subNat (ns := [a, b, c]) (by intro n hn; simp at hn; omega)) TsSub.nil))
theorem rfNumI (n : Int) (hn : 0 ≤ n ∧ n ≤ 4611686018427387904) : CallsC Try.prog 35 [okI .i64 n] [] (fun v => TAnd (Is v) (TBytes (Lv.nB n))) (fun v => [ownSl v 1 5]) := by
  have := rfNum n.toNat (by omega)
  rwa [Int.toNat_of_nonneg hn.1] at this
attribute [local irreducible] Lv.nB Oct.bytB Lv.encF Lv.encV Lv.isV Lv.hdV
set_option maxHeartbeats 4000000 in
theorem lvEncode (v : Lv.Ver) : CFn Try.prog 16 [TAgg (Lv.cVer v)] (TTup [TBytes (Lv.encodeV v).1, okI .i64 (Lv.encodeV v).2]) := by
  have c0 := lvIs v
  cases hN : Lv.isV v with
  | false =>
    rw [Lv.encode_no hN]
    rw [hN] at c0
    refine CallsC.of Try.call16 Try.func16 rfl Try.ntmps16 rfl fun w0 G0 S0 hs ho => ?_
    exact run trivial
  | true =>
    rw [Lv.encode_yes hN]
    rw [hN] at c0
    obtain ⟨b1, b2, b3, _⟩ := Lv.isV_head hN
    have c1 := wrNums2
    have c2 := wrNums3
    have c3 := wrBytes2
    have c4 := wrOut
    refine CallsC.of Try.call16 Try.func16 rfl Try.ntmps16 rfl fun w0 G0 S0 hs ho => ?_
    refine run ?_
    intro v0 _
    refine HT.loopX (σ := Nat × List UInt8) [2, 3, 4, 18, 19] (fun t => [(20, okI .i64 (t.1 : Int))]) (fun t => [WX (blk v0) t.2]) (fun t => t.1 ≤ v.files.length ∧ t.2 = Lv.hdV v ++ (v.files.take t.1).flatMap Lv.encF) (fun t => v.files.length - t.1) (0, Lv.nB v.next ++ Lv.nB (v.files.length : Int)) ⟨Nat.zero_le _, by simp [Lv.hdV]⟩ (run trivial) (run trivial) ?_
    rintro ⟨i, q⟩ ⟨hi, hq1⟩
    dsimp only at hi hq1 ⊢
    have hql := Lv.part_len hN hq1
    by_cases hlt : i < v.files.length
    · obtain ⟨d1, d2, d3, d4, d5, _⟩ := Lv.oneF_of (Lv.isV_one hN (Lv.mem_at hlt))
      have h3 := Lv.enc_snoc hlt hq1
      have e : q ++ (Lv.nB (v.files.getD i default).id ++ (Lv.nB (v.files.getD i default).level ++ Lv.nB (v.files.getD i default).size)) ++ (Oct.bytB (v.files.getD i default).first ++ Oct.bytB (v.files.getD i default).last) = q ++ Lv.encF (v.files.getD i default) := by
        unfold Lv.encF; simp only [List.append_assoc]
      have l1 := Lv.nB_len (n := (v.files.getD i default).id) (by omega)
      have l2 := Lv.nB_len (n := (v.files.getD i default).level) (by omega)
      have l3 := Lv.nB_len (n := (v.files.getD i default).size) (by omega)
      clear hql
      have hql := Lv.part_len hN hq1
      refine run ?_
      intro v1 _
      exact HX.roundX (i + 1, q ++ (Lv.nB (v.files.getD i default).id ++ (Lv.nB (v.files.getD i default).level ++ Lv.nB (v.files.getD i default).size)) ++ (Oct.bytB (v.files.getD i default).first ++ Oct.bytB (v.files.getD i default).last)) ⟨⟨by dsimp only; omega, by dsimp only; rw [e, h3]⟩, by dsimp only; omega⟩ rfl (run trivial) (run trivial)
    · rw [List.take_of_length_le (by omega), ← Lv.encV_eq] at hq1
      rw [← hq1]
      exact run trivial
set_option maxHeartbeats 4000000 in
theorem rl11Encode (v : Lv.Ver) : CFn Try.prog 17 [TAgg (Lv.cVer v)] (TTup [TBytes (Lv.encodeV v).1, okI .i64 (Lv.encodeV v).2]) := by
  have c0 := rl11Is v
  cases hN : Lv.isV v with
  | false =>
    rw [Lv.encode_no hN]
    rw [hN] at c0
    refine CallsC.of Try.call17 Try.func17 rfl Try.ntmps17 rfl fun w0 G0 S0 hs ho => ?_
    exact run trivial
  | true =>
    rw [Lv.encode_yes hN]
    rw [hN] at c0
    obtain ⟨b1, b2, b3, _⟩ := Lv.isV_head hN
    have c1 := rfNumI
    have c2 := rfBytB
    have p1 := Lv.nB_len (n := v.next) (by omega)
    have p2 := Lv.nB_len (n := (v.files.length : Int)) (by omega)
    have pl := Plan.mk' 3 [(0,3,[]),(1,3,[]),(3,3,[]),(4,3,[]),(5,3,[]),(2,0,[]),(6,0,[]),(7,0,[]),(8,3,[])]
    refine CallsC.of Try.call17 Try.func17 rfl Try.ntmps17 rfl fun w0 G0 S0 hs ho => ?_
    refine run ?_
    intro _ _ v0 _
    refine HT.loopX (σ := Nat × List UInt8 × Value) [1, 2, 3] (fun t => [(4, TAnd (Is t.2.2) (TBytes t.2.1)), (5, okI .i64 (t.1 : Int))]) (fun t => [ownSl t.2.2 1 5]) (fun t => t.1 ≤ v.files.length ∧ t.2.1 = Lv.hdV v ++ (v.files.take t.1).flatMap Lv.encF) (fun t => v.files.length - t.1) (0, Lv.nB v.next ++ Lv.nB (v.files.length : Int), v0) ⟨Nat.zero_le _, by simp [Lv.hdV]⟩ (run trivial) (run trivial) ?_
    rintro ⟨i, q, u⟩ ⟨hi, hq1⟩
    dsimp only at hi hq1 ⊢
    have hql := Lv.part_len hN hq1
    by_cases hlt : i < v.files.length
    · obtain ⟨d1, d2, d3, d4, d5, _⟩ := Lv.oneF_of (Lv.isV_one hN (Lv.mem_at hlt))
      have h3 := Lv.enc_snoc hlt hq1
      have e : q ++ Lv.nB (v.files.getD i default).id ++ Lv.nB (v.files.getD i default).level ++ Lv.nB (v.files.getD i default).size ++ Oct.bytB (v.files.getD i default).first ++ Oct.bytB (v.files.getD i default).last = q ++ Lv.encF (v.files.getD i default) := by
        unfold Lv.encF; simp only [List.append_assoc]
      have l1 := Lv.nB_len (n := (v.files.getD i default).id) (by omega)
      have l2 := Lv.nB_len (n := (v.files.getD i default).level) (by omega)
      have l3 := Lv.nB_len (n := (v.files.getD i default).size) (by omega)
      have l4 := Lv.bytB_len d4.2
      have l5 := Lv.bytB_len d5.2
      refine run ?_
      intro _ _ _ _ _ _ _ _ _ _ v1 _
      exact HX.roundX (i + 1, q ++ Lv.nB (v.files.getD i default).id ++ Lv.nB (v.files.getD i default).level ++ Lv.nB (v.files.getD i default).size ++ Oct.bytB (v.files.getD i default).first ++ Oct.bytB (v.files.getD i default).last, v1) ⟨⟨by dsimp only; omega, by dsimp only; rw [e, h3]⟩, by dsimp only; omega⟩ rfl (run trivial) (run trivial)
    · rw [List.take_of_length_le (by omega), ← Lv.encV_eq] at hq1
      rw [← hq1]
      exact run trivial
end Go.Proofs.Ytohhhaeemephnaa
set_option maxRecDepth 8000
set_option linter.unusedVariables false
namespace Go.Proofs.Ytohhhaeemephnaa
open Go.Vk
attribute [local irreducible] HT HX RegS RegA RegM OpP OpC AltT
/-- A Reader: what is left; whether it erred. -/
abbrev QX (g : Nat) (l : List UInt8) (b : Bool) : Res := ownP g 93 [TBytes l, Is (.bool b)]
abbrev EX (g : Nat) (l : List UInt8) (b : Bool) : Res := ownP g 80 [TBytes l, Is (.bool b)]
theorem rdNew (l : List UInt8) (hl : l.length ≤ 134217728) : CallsC Try.prog 40 [TBytes l] [] (fun v => Is (pAt (blk v) 0)) (fun v => [QX (blk v) l false]) := by
  have c1 := wrClone
  have mu := Mut.mk' [6]
  refine CallsC.of Try.call40 Try.func40 rfl Try.ntmps40 rfl fun w0 G0 S0 hs ho => ?_
  exact run trivial
theorem rdGood (g : Nat) (l : List UInt8) (b : Bool) : CallsC Try.prog 42 [Is (pAt g 0)] [QX g l b] (fun _ => Is (.bool (!b))) (fun _ => [QX g l b]) := by
  refine CallsC.of Try.call42 Try.func42 rfl Try.ntmps42 rfl fun w0 G0 S0 hs ho => ?_
  refine run ?_
  simp
theorem rdGoodC (l : List UInt8) (b : Bool) : CFn Try.prog 42 [TPc [TBytes l, Is (.bool b)]] (Is (.bool (!b))) := by
  refine CallsC.of Try.call42 Try.func42 rfl Try.ntmps42 rfl fun w0 G0 S0 hs ho => ?_
  refine run ?_
  simp
theorem rdBad (g : Nat) (l : List UInt8) (b : Bool) : CallsC Try.prog 65 [Is (pAt g 0)] [QX g l b] (fun _ => TTup []) (fun _ => [QX g [] true]) := by
  refine CallsC.of Try.call65 Try.func65 rfl Try.ntmps65 rfl fun w0 G0 S0 hs ho => ?_
  exact run trivial
theorem rdRaw (g : Nat) (l : List UInt8) (b : Bool) (n : Int) (hl : l.length ≤ 134217728) : CallsC Try.prog 56 [Is (pAt g 0), okI .i64 n] [QX g l b] (fun _ => TBytes (Oct.rawV l n)) (fun _ => [QX g (Oct.rawT l n) (Oct.rawE l n b)]) := by
  have c1 := wrClone
  have c2 := rdBad
  refine CallsC.of Try.call56 Try.func56 rfl Try.ntmps56 rfl fun w0 G0 S0 hs ho => ?_
  by_cases h : n < 0 ∨ (l.length : Int) < n
  · obtain ⟨e1, e2, e3⟩ := Oct.raw_no h b
    rw [e1, e2, e3]
    exact run trivial
  · obtain ⟨e1, e2, e3⟩ := Oct.raw_yes h b
    rw [e1, e2, e3]
    exact run trivial
attribute [local irreducible] Oct.rdF Oct.numV Oct.numT Oct.numE Oct.rawV Oct.rawT Oct.rawE orU shlU
set_option maxHeartbeats 4000000 in
theorem rdNum (g : Nat) (l : List UInt8) (b : Bool) (hl : l.length ≤ 134217728) : CallsC Try.prog 55 [Is (pAt g 0)] [QX g l b] (fun _ => okI .i64 (Oct.numV l)) (fun _ => [QX g (Oct.numT l) (Oct.numE l b)]) := by
  have c2 := rdBad
  refine CallsC.of Try.call55 Try.func55 rfl Try.ntmps55 rfl fun w0 G0 S0 hs ho => ?_
  refine run ?_
  intro _
  refine HT.loopX (σ := Nat × Int) [0, 11, 12] (fun t => [(2, Is (.int .i64 0)), (3, okI .u64 t.2), (13, okI .i64 (t.1 : Int))]) (fun t => [QX g l b]) (fun t => t.1 ≤ l.length ∧ Oct.rdF t.1 t.2 (l.drop t.1) = Oct.rdF 0 0 l ∧ 0 ≤ t.2 ∧ t.2 < 18446744073709551616) (fun t => l.length - t.1) (0, 0) ⟨Nat.zero_le _, rfl, by decide⟩ (run trivial) (run trivial) ?_
  rintro ⟨i, u⟩ ⟨hi, he, hu⟩
  dsimp only at hi he hu ⊢
  have hor := Oct.orU_bd u (shlU ((l.getD i 0 &&& b8 127).toNat : Int) (7 * (i : Int)))
  refine run ?_
  and_intros
  all_goals intros
  all_goals (first
    | exact HX.roundX (i + 1, orU u (shlU ((l.getD i 0 &&& b8 127).toNat : Int) (7 * (i : Int)))) ⟨⟨by dsimp only; omega, (Oct.rd_next (by omega) (by omega) (by assumption)).symm.trans he, hor⟩, by dsimp only; omega⟩ rfl (run trivial) (run trivial)
    | exact Oct.noneV (he.symm.trans (Oct.rd_end (by omega)))
    | exact Oct.noneT (he.symm.trans (Oct.rd_end (by omega)))
    | exact Oct.noneE (he.symm.trans (Oct.rd_end (by omega)))
    | exact Oct.noneV (he.symm.trans (Oct.rd_no (by omega) (by omega)))
    | exact Oct.noneT (he.symm.trans (Oct.rd_no (by omega) (by omega)))
    | exact Oct.noneE (he.symm.trans (Oct.rd_no (by omega) (by omega)))
    | exact Oct.someV (he.symm.trans (Oct.rd_good (by omega) (by omega) (by assumption) (by assumption)))
    | exact Oct.someT (he.symm.trans (Oct.rd_good (by omega) (by omega) (by assumption) (by assumption))) (by rw [show ((i : Int) + 1).toNat = i + 1 by omega])
    | exact Oct.someE (he.symm.trans (Oct.rd_good (by omega) (by omega) (by assumption) (by assumption))))
theorem rdBytes (g : Nat) (l : List UInt8) (b : Bool) (hl : l.length ≤ 134217728) : CallsC Try.prog 43 [Is (pAt g 0)] [QX g l b] (fun _ => TBytes (Oct.bytV l)) (fun _ => [QX g (Oct.bytT l) (Oct.bytE l b)]) := by
  have c1 := rdNum
  have c2 := rdRaw
  have ht := Oct.numT_len l
  unfold Oct.bytV Oct.bytT Oct.bytE
  refine CallsC.of Try.call43 Try.func43 rfl Try.ntmps43 rfl fun w0 G0 S0 hs ho => ?_
  exact run trivial
theorem rfBad (g : Nat) (l : List UInt8) (b : Bool) : CallsC Try.prog 58 [Is (pAt g 0)] [EX g l b] (fun _ => TTup []) (fun _ => [EX g [] true]) := by
  refine CallsC.of Try.call58 Try.func58 rfl Try.ntmps58 rfl fun w0 G0 S0 hs ho => ?_
  exact run trivial
theorem rfRaw (g : Nat) (l : List UInt8) (b : Bool) (n : Int) (hb : b = true → l = []) (hl : l.length ≤ 134217728) : CallsC Try.prog 57 [Is (pAt g 0), okI .i64 n] [EX g l b] (fun _ => TBytes (Oct.rawV l n)) (fun _ => [EX g (Oct.rawT l n) (Oct.rawE l n b)]) := by
  have c2 := rfBad
  refine CallsC.of Try.call57 Try.func57 rfl Try.ntmps57 rfl fun w0 G0 S0 hs ho => ?_
  by_cases h : n < 0 ∨ (l.length : Int) < n
  · obtain ⟨e1, e2, e3⟩ := Oct.raw_no h b
    rw [e1, e2, e3]
    exact run trivial
  · obtain ⟨e1, e2, e3⟩ := Oct.raw_yes h b
    rw [e1, e2, e3]
    cases b with
    | true =>
      have := hb rfl
      subst this
      refine run ?_
      simp
    | false =>
      refine run ?_
      intros
      rfl
set_option maxHeartbeats 4000000 in
theorem rfNumR (g : Nat) (l : List UInt8) (b : Bool) (hb : b = true → l = []) (hl : l.length ≤ 134217728) : CallsC Try.prog 45 [Is (pAt g 0)] [EX g l b] (fun _ => okI .i64 (Oct.numV l)) (fun _ => [EX g (Oct.numT l) (Oct.numE l b)]) := by
  have c2 := rfBad
  refine CallsC.of Try.call45 Try.func45 rfl Try.ntmps45 rfl fun w0 G0 S0 hs ho => ?_
  refine run ?_
  refine HT.loopX (σ := Nat × Int) [0] (fun t => [(2, Is (.int .i64 0)), (3, okI .u64 t.2), (4, okI .i64 (t.1 : Int))]) (fun t => [EX g (l.drop t.1) b]) (fun t => t.1 ≤ 9 ∧ Oct.rdF t.1 t.2 (l.drop t.1) = Oct.rdF 0 0 l ∧ 0 ≤ t.2 ∧ t.2 < 18446744073709551616) (fun t => 10 - t.1) (0, 0) ⟨Nat.zero_le _, rfl, by decide⟩ (run ?_) (run trivial) ?_
  · rfl
  rintro ⟨i, u⟩ ⟨hi, he, hu⟩
  dsimp only at hi he hu ⊢
  have hor := Oct.orU_bd u (shlU ((l.getD i 0 &&& b8 127).toNat : Int) (7 * (i : Int)))
  have hn := Oct.or_nine (i := (i : Int)) (c := l.getD i 0) hu
  have hbd : b = true → l.drop i = [] := fun h => by rw [hb h]; simp
  have c1 := rfRaw g (l.drop i) b 1 hbd (by rw [List.length_drop]; omega)
  by_cases hlt : i < l.length
  · have hb0 : b = false := by
      cases b with
      | false => rfl
      | true => exfalso; rw [hb rfl] at hlt; simp at hlt
    subst hb0
    obtain ⟨e1, e2, e3⟩ := Oct.raw_one hlt false
    rw [e1, e2, e3] at c1
    have hor2 := Oct.orU_bd u (shlU (([l.getD i 0].getD 0 0 &&& b8 127).toNat : Int) (7 * (i : Int)))
    refine run ?_
    simp only [List.getD_cons_zero]
    and_intros
    all_goals intros
    all_goals (first
      | exact HX.roundX (i + 1, orU u (shlU ((l.getD i 0 &&& b8 127).toNat : Int) (7 * (i : Int)))) ⟨⟨by dsimp only; omega, (Oct.rd_next (by omega) (by omega) (by omega)).symm.trans he, hor⟩, by dsimp only; omega⟩ rfl (run trivial) (run trivial)
      | exact Oct.noneV (he.symm.trans (Oct.rd_no (by omega) (by omega)))
      | exact Oct.noneT (he.symm.trans (Oct.rd_no (by omega) (by omega)))
      | exact Oct.noneE (he.symm.trans (Oct.rd_no (by omega) (by omega)))
      | exact Oct.someV (he.symm.trans (Oct.rd_good (by omega) (by omega) (by omega) (by omega)))
      | exact Oct.someT (he.symm.trans (Oct.rd_good (by omega) (by omega) (by omega) (by omega))) rfl
      | exact Oct.someE (he.symm.trans (Oct.rd_good (by omega) (by omega) (by omega) (by omega))))
  · obtain ⟨e1, e2, e3⟩ := Oct.raw_end hlt b
    rw [e1, e2, e3] at c1
    have hz := he.symm.trans (Oct.rd_end hlt)
    refine run ?_
    exact ⟨fun _ _ => Oct.noneT hz, fun _ _ => Oct.noneE hz, fun _ _ => Oct.noneV hz⟩
end Go.Proofs.Ytohhhaeemephnaa
set_option maxRecDepth 8000
set_option linter.unusedVariables false
namespace Go.Proofs.Ytohhhaeemephnaa
open Go.Vk
attribute [local irreducible] HT HX RegS RegA RegM OpP OpC AltT
attribute [local irreducible] Oct.numV Oct.numT Oct.numE Oct.rawV Oct.rawT Oct.rawE
theorem rfBytesR (g : Nat) (l : List UInt8) (b : Bool) (hb : b = true → l = []) (hl : l.length ≤ 134217728) : CallsC Try.prog 46 [Is (pAt g 0)] [EX g l b] (fun _ => TBytes (Oct.bytV l)) (fun _ => [EX g (Oct.bytT l) (Oct.bytE l b)]) := by
  have c1 := rfNumR g l b hb hl
  have ht := Oct.numT_len l
  have hn := Oct.numE_nil hb
  have c2 := fun n => rfRaw g (Oct.numT l) (Oct.numE l b) n hn (by omega)
  unfold Oct.bytV Oct.bytT Oct.bytE
  refine CallsC.of Try.call46 Try.func46 rfl Try.ntmps46 rfl fun w0 G0 S0 hs ho => ?_
  cases he : Oct.numE l b with
  | true =>
    have h0 := hn he
    have h1 : Oct.numV l = 0 := Oct.numV_of he hb
    have h2 := Oct.raw_nil
    rw [he] at c1 c2
    rw [h0, h1]
    rw [h0] at c1
    rw [h1] at c1
    refine run ?_
    exact ⟨fun _ => h2.2.1.symm, fun _ => (h2.2.2 true).symm, fun _ => h2.1.symm⟩
  | false =>
    rw [he] at c1 c2
    exact run trivial
end Go.Proofs.Ytohhhaeemephnaa
