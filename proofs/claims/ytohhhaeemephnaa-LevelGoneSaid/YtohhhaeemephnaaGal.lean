/-
  The order of texts: laws. Nothing here speaks of a program; no conditions.
  Versions: the plain structures and what may be; as bytes and out of bytes.
  Versions: what lies over a row of keys, the order of looking, what is due. Plain; nothing here speaks of a program; no conditions.
  The contracts of the program's compare, follows, isKey and Is.
  The contract of levels: how many files each level has, and where they stand.
  The contracts of the program's Over, with and Pick.
-/
import Derived.Test.YtohhhaeemephnaaGak
import Derived.Test.YtohhhaeemephnaaGag
import Derived.Test.YtohhhaeemephnaaRows
set_option linter.unusedSimpArgs false
set_option linter.unusedVariables false
set_option linter.unusedVariables false
namespace Go.Vk
theorem sless_nil (l : List UInt8) : sless l [] = false := by cases l <;> rfl
theorem sless_cons (a b : UInt8) (x y : List UInt8) : sless (a :: x) (b :: y) = (decide (a < b) || (a == b && sless x y)) := by
  show Op.bytesLess (a :: x) (b :: y) = _
  rw [Op.bytesLess]
theorem sless_irrefl : ∀ l : List UInt8, sless l l = false
  | [] => rfl
  | a :: l => by
    rw [sless_cons, sless_irrefl l]
    simp [UInt8.lt_irrefl]
theorem sless_iff {a b : UInt8} {x y : List UInt8} : sless (a :: x) (b :: y) = true ↔ a.toNat < b.toNat ∨ (a = b ∧ sless x y = true) := by
  rw [sless_cons]
  simp [UInt8.lt_iff_toNat_lt]
theorem sless_trans : ∀ {a b c : List UInt8}, sless a b = true → sless b c = true → sless a c = true
  | _, [], _, h, _ => by rw [sless_nil] at h; cases h
  | _, _ :: _, [], _, h => by rw [sless_nil] at h; cases h
  | [], _ :: _, _ :: _, _, _ => rfl
  | a :: x, b :: y, c :: z, h, k => by
    rw [sless_iff] at *
    rcases h with h | ⟨rfl, h⟩ <;> rcases k with k | ⟨rfl, k⟩
    · left; omega
    · left; exact h
    · left; exact k
    · right; exact ⟨rfl, sless_trans h k⟩
theorem sless_asymm {a b : List UInt8} (h : sless a b = true) : sless b a = false := by
  cases hb : sless b a with
  | false => rfl
  | true => have := sless_trans h hb; rw [sless_irrefl] at this; cases this
theorem sless_total : ∀ a b : List UInt8, sless a b = true ∨ a = b ∨ sless b a = true
  | [], [] => .inr (.inl rfl)
  | [], _ :: _ => .inl rfl
  | _ :: _, [] => .inr (.inr rfl)
  | a :: x, b :: y => by
    rw [sless_iff, sless_iff]
    rcases Nat.lt_trichotomy a.toNat b.toNat with h | h | h
    · exact .inl (.inl h)
    · have h' := UInt8.toNat_inj.1 h
      subst h'
      rcases sless_total x y with h | rfl | h
      · exact .inl (.inr ⟨rfl, h⟩)
      · exact .inr (.inl rfl)
      · exact .inr (.inr (.inr ⟨rfl, h⟩))
    · exact .inr (.inr (.inl h))
/-- Not above. -/
def sle (a b : List UInt8) : Bool := !sless b a
theorem sle_eq (a b : List UInt8) : (sless a b || a == b) = sle a b := by
  unfold sle
  rcases sless_total a b with h | rfl | h
  · rw [h, sless_asymm h]; rfl
  · rw [sless_irrefl]; simp
  · rw [h, sless_asymm h]
    simp
    intro e; subst e; rw [sless_irrefl] at h; cases h
theorem sgt_eq (a b : List UInt8) : (!(sless a b || a == b)) = sless b a := by rw [sle_eq]; unfold sle; simp
theorem sle_refl (a : List UInt8) : sle a a = true := by unfold sle; rw [sless_irrefl]; rfl
theorem sle_of_lt {a b : List UInt8} (h : sless a b = true) : sle a b = true := by unfold sle; rw [sless_asymm h]; rfl
theorem sle_iff {a b : List UInt8} : sle a b = true ↔ sless b a = false := by unfold sle; simp
theorem sle_cases {a b : List UInt8} (h : sle a b = true) : sless a b = true ∨ a = b := by
  rcases sless_total a b with h1 | h1 | h1
  · exact .inl h1
  · exact .inr h1
  · rw [sle_iff, h1] at h; cases h
theorem sle_trans {a b c : List UInt8} (h : sle a b = true) (k : sle b c = true) : sle a c = true := by
  rcases sle_cases h with h | rfl
  · rcases sle_cases k with k | rfl
    · exact sle_of_lt (sless_trans h k)
    · exact sle_of_lt h
  · exact k
theorem sle_lt {a b c : List UInt8} (h : sle a b = true) (k : sless b c = true) : sless a c = true := by
  rcases sle_cases h with h | rfl
  · exact sless_trans h k
  · exact k
theorem lt_sle {a b c : List UInt8} (h : sless a b = true) (k : sle b c = true) : sless a c = true := by
  rcases sle_cases k with k | rfl
  · exact sless_trans h k
  · exact h
theorem sle_antisymm {a b : List UInt8} (h : sle a b = true) (k : sle b a = true) : a = b := by
  rcases sle_cases h with h | h
  · rw [sle_iff, h] at k; cases k
  · exact h
end Go.Vk
set_option linter.unusedVariables false
namespace Go.Lv
open Go.Vk
open Go.Oct (numB bytB RS badS lenS)
structure File where
  id : Int
  level : Int
  size : Int
  first : List UInt8
  last : List UInt8
deriving DecidableEq
def zF : File := ⟨0, 0, 0, [], []⟩
instance : Inhabited File := ⟨zF⟩
def cFile (f : File) : List Ty := [okI .i64 f.id, okI .i64 f.level, okI .i64 f.size, Is (str f.first), Is (str f.last)]
structure Ver where
  next : Int
  files : List File
deriving DecidableEq
abbrev cVer (v : Ver) : List Ty := [okI .i64 v.next, TSl 5 cFile v.files]
def zV : Ver := ⟨0, []⟩
def okK (n : Int) : Prop := -9223372036854775808 ≤ n ∧ n ≤ 9223372036854775807
/-- What a file is, however it may be. -/
def Okf (f : File) : Prop := okK f.id ∧ okK f.level ∧ okK f.size ∧ f.first.length ≤ 140737488351232 ∧ f.last.length ≤ 140737488351232
/-! ### what may be -/
def keyB (s : List UInt8) : Bool := decide (1 ≤ (s.length : Int)) && decide ((s.length : Int) ≤ 4096)
def oneF (f : File) (next : Int) : Bool := decide (1 ≤ f.id) && decide (f.id < next) && decide (0 ≤ f.level) && decide (f.level ≤ 4) && decide (1 ≤ f.size) && decide (f.size ≤ 1048576) && keyB f.first && keyB f.last && sle f.first f.last
def ahead (a b : File) : Bool := if a.level ≠ b.level then decide (a.level < b.level) else if a.level = 0 then decide (a.id < b.id) else sless a.first b.first
def linkF (a b : File) : Bool := ahead a b && !(decide (0 < b.level) && decide (a.level = b.level) && sle b.first a.last)
def stepV (l : List File) (next : Int) (i : Nat) : Bool := oneF (l.getD i default) next && !((l.take i).any fun g => decide (g.id = (l.getD i default).id)) && (decide (i = 0) || linkF (l.getD (i - 1) default) (l.getD i default))
def uptoV (l : List File) (next : Int) (n : Nat) : Bool := (List.range n).all (stepV l next)
def isV (v : Ver) : Bool := decide (1 ≤ v.next) && decide (v.next ≤ 1099511627776) && decide ((v.files.length : Int) ≤ 1024) && uptoV v.files v.next v.files.length
theorem upto_0 (l : List File) (next : Int) : uptoV l next 0 = true := rfl
theorem upto_succ (l : List File) (next : Int) (n : Nat) : uptoV l next (n + 1) = (uptoV l next n && stepV l next n) := by
  unfold uptoV
  rw [List.range_succ, List.all_append]
  simp
theorem upto_le {l : List File} {next : Int} {n m : Nat} (h : n ≤ m) (k : uptoV l next m = true) : uptoV l next n = true := by
  unfold uptoV at *
  rw [List.all_eq_true] at *
  intro i hi
  exact k i (by rw [List.mem_range] at *; omega)
theorem upto_no {l : List File} {next : Int} {n m : Nat} (h : n < m) (k : stepV l next n = false) : uptoV l next m = false := by
  cases hm : uptoV l next m with
  | false => rfl
  | true =>
    have := upto_le (n := n + 1) (by omega) hm
    rw [upto_succ, k, Bool.and_false] at this; cases this
theorem isV_head {v : Ver} (h : isV v = true) : 1 ≤ v.next ∧ v.next ≤ 1099511627776 ∧ v.files.length ≤ 1024 ∧ uptoV v.files v.next v.files.length = true := by
  unfold isV at h
  simp only [Bool.and_eq_true, decide_eq_true_eq] at h
  exact ⟨h.1.1.1, h.1.1.2, by omega, h.2⟩
theorem isV_at {v : Ver} (h : isV v = true) {i : Nat} (hi : i < v.files.length) : stepV v.files v.next i = true := by
  have := upto_le (n := i + 1) (by omega) (isV_head h).2.2.2
  rw [upto_succ, Bool.and_eq_true] at this
  exact this.2
theorem step_one {l : List File} {next : Int} {i : Nat} (h : stepV l next i = true) : oneF (l.getD i default) next = true := by
  unfold stepV at h; simp only [Bool.and_eq_true] at h; exact h.1.1
theorem oneF_of {f : File} {next : Int} (h : oneF f next = true) : (1 ≤ f.id ∧ f.id < next) ∧ (0 ≤ f.level ∧ f.level ≤ 4) ∧ (1 ≤ f.size ∧ f.size ≤ 1048576) ∧ (1 ≤ f.first.length ∧ f.first.length ≤ 4096) ∧ (1 ≤ f.last.length ∧ f.last.length ≤ 4096) ∧ sle f.first f.last = true := by
  unfold oneF keyB at h
  simp only [Bool.and_eq_true, decide_eq_true_eq] at h
  obtain ⟨⟨⟨⟨⟨⟨⟨⟨h1, h2⟩, h3⟩, h4⟩, h5⟩, h6⟩, h7, h8⟩, h9, h10⟩, h11⟩ := h
  exact ⟨⟨h1, h2⟩, ⟨h3, h4⟩, ⟨h5, h6⟩, ⟨by omega, by omega⟩, ⟨by omega, by omega⟩, h11⟩
theorem isV_one {v : Ver} (h : isV v = true) {f : File} (hf : f ∈ v.files) : oneF f v.next = true := by
  obtain ⟨i, hi, e⟩ := List.getElem_of_mem hf
  have := step_one (isV_at h hi)
  rw [List.getD_eq_getElem?_getD, List.getElem?_eq_getElem hi, Option.getD_some, e] at this
  exact this
theorem isV_no0 {v : Ver} (h : (v.next < 1 ∨ 1099511627776 < v.next) ∨ 1024 < (v.files.length : Int)) : isV v = false := by
  cases e : isV v with
  | false => rfl
  | true => have := isV_head e; omega
theorem isV_no1 {v : Ver} {i : Nat} (hi : i < v.files.length) (h : stepV v.files v.next i = false) : isV v = false := by
  cases e : isV v with
  | false => rfl
  | true => rw [isV_at e hi] at h; cases h
theorem isV_yes {v : Ver} (h : (¬ v.next < 1 ∧ ¬ 1099511627776 < v.next) ∧ ¬ 1024 < (v.files.length : Int)) {i : Nat} (hi : ¬ i < v.files.length) (hl : i ≤ v.files.length) (k : uptoV v.files v.next i = true) : isV v = true := by
  have e : i = v.files.length := by omega
  subst e
  unfold isV
  rw [k, decide_eq_true (by omega), decide_eq_true (by omega), decide_eq_true (by omega)]
  rfl
theorem any_snoc {α : Type} [Inhabited α] {l : List α} {i : Nat} {p : α → Bool} (h : i < l.length) : (l.take (i + 1)).any p = ((l.take i).any p || p (l.getD i default)) := by
  rw [List.take_succ_eq_append_getElem h, List.any_append, List.getD_eq_getElem?_getD, List.getElem?_eq_getElem h, Option.getD_some]
  simp
/-- Is an id among the first files? -/
def seenV (l : List File) (i : Nat) (n : Int) : Bool := (l.take i).any fun g => decide (g.id = n)
theorem seen_0 (l : List File) (n : Int) : seenV l 0 n = false := rfl
theorem seen_succ {l : List File} {i : Nat} (h : i < l.length) (n : Int) : seenV l (i + 1) n = (seenV l i n || decide ((l.getD i default).id = n)) := any_snoc h
theorem seen_le {l : List File} {i k : Nat} {n : Int} (h : k < i) (hl : i ≤ l.length) (e : (l.getD k default).id = n) : seenV l i n = true := by
  unfold seenV
  rw [List.any_eq_true]
  refine ⟨l.getD k default, ?_, by simpa using e⟩
  rw [List.getD_eq_getElem?_getD, List.getElem?_eq_getElem (show k < l.length by omega), Option.getD_some]
  exact List.mem_take_iff_getElem.2 ⟨k, by omega, rfl⟩
theorem step_eq (l : List File) (next : Int) (i : Nat) : stepV l next i = (oneF (l.getD i default) next && !seenV l i (l.getD i default).id && (decide (i = 0) || linkF (l.getD (i - 1) default) (l.getD i default))) := rfl
/-! ### as bytes -/
def nB (n : Int) : List UInt8 := numB n.toNat
def encF (f : File) : List UInt8 := nB f.id ++ nB f.level ++ nB f.size ++ bytB f.first ++ bytB f.last
theorem nB_nat (n : Nat) : nB (n : Int) = numB n := by unfold nB; rw [Int.toNat_natCast]
def encV (v : Ver) : List UInt8 := nB v.next ++ nB (v.files.length : Int) ++ v.files.flatMap encF
def encodeV (v : Ver) : List UInt8 × Int := if isV v = true then (encV v, 0) else ([], 1)
theorem numB_le9 {n : Nat} (h : n ≤ 4611686018427387904) : (numB n).length ≤ 9 := (Oct.numB_le h).2
theorem nB_len {n : Int} (h : n ≤ 4611686018427387904) : (nB n).length ≤ 9 := numB_le9 (by omega)
theorem bytB_len {s : List UInt8} (h : s.length ≤ 4096) : (bytB s).length ≤ 4105 := by
  unfold Oct.bytB
  have := numB_le9 (n := s.length) (by omega)
  rw [List.length_append]; omega
theorem encF_len {f : File} {next : Int} (h : oneF f next = true) (hn : next ≤ 1099511627776) : (encF f).length ≤ 8237 := by
  obtain ⟨h1, h2, h3, h4, h5, h6⟩ := oneF_of h
  have a1 := numB_le9 (n := f.id.toNat) (by omega)
  have a2 := numB_le9 (n := f.level.toNat) (by omega)
  have a3 := numB_le9 (n := f.size.toNat) (by omega)
  have a4 := bytB_len h4.2
  have a5 := bytB_len h5.2
  unfold encF nB
  simp only [List.length_append]
  omega
theorem flat_le {α : Type} {g : α → List UInt8} {c : Nat} : ∀ (l : List α), (∀ a ∈ l, (g a).length ≤ c) → (l.flatMap g).length ≤ c * l.length
  | [], _ => by simp
  | a :: l, h => by
    have h1 := h a (by simp)
    have h2 := flat_le l (fun b hb => h b (by simp [hb]))
    rw [List.flatMap_cons, List.length_append, List.length_cons, Nat.mul_succ]
    omega
theorem encV_len {v : Ver} (h : isV v = true) : (encV v).length ≤ 8440000 ∧ ∀ i, ((v.files.take i).flatMap encF).length ≤ 8434688 := by
  obtain ⟨h1, h2, h3, h4⟩ := isV_head h
  have a1 := numB_le9 (n := v.next.toNat) (by omega)
  have a2 := numB_le9 (n := v.files.length) (by omega)
  have a3 := flat_le v.files (fun f hf => encF_len (isV_one h hf) h2)
  have a4 : (v.files.flatMap encF).length ≤ 8434688 := Nat.le_trans a3 (by omega)
  refine ⟨?_, fun i => Nat.le_trans (Oct.flat_part encF i) a4⟩
  unfold encV
  rw [nB_nat]
  unfold nB
  simp only [List.length_append]
  omega
theorem encode_yes {v : Ver} (h : isV v = true) : encodeV v = (encV v, 0) := if_pos h
theorem encode_no {v : Ver} (h : isV v = false) : encodeV v = ([], 1) := if_neg (by rw [h]; simp)
def hdV (v : Ver) : List UInt8 := nB v.next ++ nB (v.files.length : Int)
theorem encV_eq (v : Ver) : encV v = hdV v ++ v.files.flatMap encF := rfl
/-- How far the bytes have come. -/
theorem part_len {v : Ver} (h : isV v = true) {q : List UInt8} {i : Nat} (e : q = hdV v ++ (v.files.take i).flatMap encF) : q.length ≤ 8440000 := by
  obtain ⟨h1, h2, h3, h4⟩ := isV_head h
  have a1 := numB_le9 (n := v.next.toNat) (by omega)
  have a2 := numB_le9 (n := v.files.length) (by omega)
  have a3 := (encV_len h).2 i
  rw [e]
  unfold hdV
  rw [nB_nat]
  unfold nB
  simp only [List.length_append]
  omega
theorem enc_snoc {v : Ver} {i : Nat} (hi : i < v.files.length) {q : List UInt8} (e : q = hdV v ++ (v.files.take i).flatMap encF) : q ++ encF (v.files.getD i default) = hdV v ++ (v.files.take (i + 1)).flatMap encF := by
  rw [Oct.flat_snoc encF hi, e, List.append_assoc]
theorem mem_at {l : List File} {i : Nat} (h : i < l.length) : l.getD i default ∈ l := by
  rw [List.getD_eq_getElem?_getD, List.getElem?_eq_getElem h]; simp
/-! ### out of bytes -/
def nmT (s : RS) : RS := (Oct.numT s.1, Oct.numE s.1 s.2)
def byT (s : RS) : RS := (Oct.bytT s.1, Oct.bytE s.1 s.2)
def stepF (s : RS) : File × RS := (⟨Oct.numV s.1, Oct.numV (nmT s).1, Oct.numV (nmT (nmT s)).1, Oct.bytV (nmT (nmT (nmT s))).1, Oct.bytV (byT (nmT (nmT (nmT s)))).1⟩, byT (byT (nmT (nmT (nmT s)))))
theorem numE_f {l : List UInt8} {b : Bool} (h : Oct.numE l b = false) : b = false := by
  cases b with
  | false => rfl
  | true => rw [Oct.numE_true] at h; cases h
theorem bytE_f {l : List UInt8} {b : Bool} (h : Oct.bytE l b = false) : b = false := by
  cases b with
  | false => rfl
  | true => rw [Oct.bytE_true] at h; cases h
theorem stepF_le (s : RS) : lenS (stepF s).2 ≤ (Oct.numT s.1).length := by
  have h1 := Oct.numT_len (Oct.numT s.1)
  have h2 := Oct.numT_len (Oct.numT (Oct.numT s.1))
  have h3 := Oct.bytT_le (Oct.numT (Oct.numT (Oct.numT s.1)))
  have h4 := Oct.bytT_le (Oct.bytT (Oct.numT (Oct.numT (Oct.numT s.1))))
  show (Oct.bytT (Oct.bytT (Oct.numT (Oct.numT (Oct.numT s.1))))).length ≤ _
  omega
theorem stepF_len (s : RS) : lenS (stepF s).2 ≤ lenS s := Nat.le_trans (stepF_le s) (Oct.numT_len _)
theorem eatsF : Oct.Eats stepF badS lenS := ⟨fun s _ => by
  cases h : (stepF s).2.2 with
  | true => exact .inl h
  | false =>
    right
    have h5 : Oct.numE s.1 s.2 = false := numE_f (numE_f (bytE_f (bytE_f h)))
    exact Nat.lt_of_le_of_lt (stepF_le s) (Oct.numT_lt h5)⟩
def decF (s : List UInt8) : List File × RS := Oct.rows stepF badS lenS (Oct.numV (Oct.numT s)) [] (nmT (nmT (s, false)))
def decV (s : List UInt8) : Ver := ⟨Oct.numV s, (decF s).1⟩
/-- What is told of bytes. -/
def okD (s : List UInt8) : Bool := isV (decV s) && decide (encV (decV s) = s)
theorem nB_back {n : Int} (h : 0 ≤ n ∧ n ≤ 4611686018427387904) (r : List UInt8) : Oct.numV (nB n ++ r) = n ∧ Oct.numT (nB n ++ r) = r ∧ ∀ b, Oct.numE (nB n ++ r) b = b := by
  obtain ⟨k1, k2, k3⟩ := Oct.num_numB (n := n.toNat) (by omega) r
  exact ⟨by unfold nB; rw [k1]; omega, k2, k3⟩
theorem stepF_back {f : File} {next : Int} (h : oneF f next = true) (hn : next ≤ 1099511627776) (r : List UInt8) : stepF (encF f ++ r, false) = (f, (r, false)) := by
  obtain ⟨h1, h2, h3, h4, h5, h6⟩ := oneF_of h
  obtain ⟨a1, a2, a3⟩ := nB_back (n := f.id) (by omega) (nB f.level ++ (nB f.size ++ (bytB f.first ++ (bytB f.last ++ r))))
  obtain ⟨b1, b2, b3⟩ := nB_back (n := f.level) (by omega) (nB f.size ++ (bytB f.first ++ (bytB f.last ++ r)))
  obtain ⟨c1, c2, c3⟩ := nB_back (n := f.size) (by omega) (bytB f.first ++ (bytB f.last ++ r))
  obtain ⟨d1, d2, d3⟩ := Oct.byt_bytB (l := f.first) (by omega) (bytB f.last ++ r)
  obtain ⟨e1, e2, e3⟩ := Oct.byt_bytB (l := f.last) (by omega) r
  have e : encF f ++ r = nB f.id ++ (nB f.level ++ (nB f.size ++ (bytB f.first ++ (bytB f.last ++ r)))) := by unfold encF; simp only [List.append_assoc]
  unfold stepF nmT byT
  dsimp only
  rw [e, a1, a2, a3, b1, b2, b3, c1, c2, c3, d1, d2, d3, e1, e2, e3]
theorem dec_back {v : Ver} (h : isV v = true) : decV (encV v) = v ∧ (decF (encV v)).2 = ([], false) := by
  obtain ⟨h1, h2, h3, h4⟩ := isV_head h
  obtain ⟨a1, a2, a3⟩ := nB_back (n := v.next) (by omega) (numB v.files.length ++ (v.files.flatMap encF ++ []))
  obtain ⟨b1, b2, b3⟩ := Oct.num_numB (n := v.files.length) (by omega) (v.files.flatMap encF ++ [])
  have e : encV v = nB v.next ++ (numB v.files.length ++ (v.files.flatMap encF ++ [])) := by unfold encV; rw [nB_nat]; simp only [List.append_assoc, List.append_nil]
  have r1 := Oct.rows_back eatsF encF (fun l => (l, false)) (fun _ => rfl) v.files [] [] (v.files.length : Int) (fun x hx r => stepF_back (isV_one h hx) h2 r) (by simp)
  have d1 : decF (encV v) = (v.files, ([], false)) := by
    unfold decF nmT
    dsimp only
    rw [e, a2, a3, b1, b2, b3, r1]
    simp
  refine ⟨?_, by rw [d1]⟩
  unfold decV
  rw [d1, e, a1]
theorem okD_good {s : List UInt8} (h : okD s = true) : (decF s).2 = ([], false) := by
  unfold okD at h
  simp only [Bool.and_eq_true, decide_eq_true_eq] at h
  have := (dec_back h.1).2
  rwa [h.2] at this
theorem okD_enc {v : Ver} (h : isV v = true) : okD (encV v) = true := by
  unfold okD
  rw [(dec_back h).1, h]; simp
theorem okD_no {s : List UInt8} (h : isV (decV s) = false ∨ ¬ encV (decV s) = s) : okD s = false := by
  unfold okD
  rcases h with h | h
  · rw [h]; rfl
  · rw [decide_eq_false h]; simp
theorem okD_yes {s : List UInt8} (h : isV (decV s) = true ∧ encV (decV s) = s) : okD s = true := by
  unfold okD
  rw [h.1, decide_eq_true h.2]; rfl
theorem step_no1 {f : File} {next : Int} {s l : Bool} (h : (((((f.id < 1 ∨ next ≤ f.id) ∨ s = true) ∨ f.level < 0) ∨ 4 < f.level) ∨ f.size < 1) ∨ 1048576 < f.size) : (oneF f next && !s && l) = false := by
  unfold oneF
  cases s with
  | true => simp
  | false =>
    simp only [Bool.false_eq_true, or_false] at h
    have : (decide (1 ≤ f.id) && decide (f.id < next) && decide (0 ≤ f.level) && decide (f.level ≤ 4) && decide (1 ≤ f.size) && decide (f.size ≤ 1048576)) = false := by
      simp only [Bool.and_eq_false_iff, decide_eq_false_iff_not]
      omega
    rw [this]; rfl
theorem step_no2 {f : File} {next : Int} {s l : Bool} (h : (keyB f.first = false ∨ keyB f.last = false) ∨ sless f.first f.last = false ∧ (f.first == f.last) = false) : (oneF f next && !s && l) = false := by
  have e := sle_eq f.first f.last
  unfold oneF
  rcases h with (h | h) | ⟨h, k⟩
  · rw [h]; simp
  · rw [h]; simp
  · rw [← e, h, k]; simp
theorem one_yes {f : File} {next : Int} {s : Bool} (h : (((((¬f.id < 1 ∧ ¬next ≤ f.id) ∧ s = false) ∧ ¬f.level < 0) ∧ ¬4 < f.level) ∧ ¬f.size < 1) ∧ ¬1048576 < f.size) (k : (keyB f.first = true ∧ keyB f.last = true) ∧ (sless f.first f.last = true ∨ (f.first == f.last) = true)) : oneF f next = true := by
  have e := sle_eq f.first f.last
  unfold oneF
  rw [k.1.1, k.1.2, decide_eq_true (show 1 ≤ f.id by omega), decide_eq_true (show f.id < next by omega), decide_eq_true (show 0 ≤ f.level by omega), decide_eq_true (show f.level ≤ 4 by omega), decide_eq_true (show 1 ≤ f.size by omega), decide_eq_true (show f.size ≤ 1048576 by omega), ← e]
  simp only [Bool.true_and, Bool.and_true, Bool.or_eq_true]
  exact k.2
/-! ### the program's order -/
def cmpI (m n : Int) : Int := if m < n then -1 else if n < m then 1 else 0
def cmpS (a b : List UInt8) : Int := if sless a b = true then -1 else if sless b a = true then 1 else 0
def cmpF (a b : File) : Int := if a.level = 0 ∧ b.level = 0 then cmpI a.id b.id else if cmpI a.level b.level = 0 then cmpS a.first b.first else cmpI a.level b.level
def followsF (a b : File) : Bool := if 0 < a.level ∧ a.level = b.level then sless a.last b.first else decide (cmpF a b < 0)
theorem cmpI_neg {m n : Int} : cmpI m n < 0 ↔ m < n := by
  unfold cmpI
  repeat' split
  all_goals omega
theorem cmpI_zero {m n : Int} : cmpI m n = 0 ↔ m = n := by
  unfold cmpI
  repeat' split
  all_goals omega
theorem cmpS_neg {a b : List UInt8} : cmpS a b < 0 ↔ sless a b = true := by
  unfold cmpS
  split
  · simp [*]
  · split <;> simp [*]
/-- One order, told in two ways. -/
theorem cmpF_neg {a b : File} : cmpF a b < 0 ↔ ahead a b = true := by
  unfold cmpF ahead
  by_cases h : a.level = b.level
  · rw [if_neg (show ¬ a.level ≠ b.level by simp [h]), if_pos (cmpI_zero.2 h)]
    by_cases h0 : a.level = 0
    · rw [if_pos ⟨h0, by omega⟩, if_pos h0, cmpI_neg]; simp
    · rw [if_neg (by omega), if_neg h0, cmpS_neg]
  · rw [if_pos (show a.level ≠ b.level from h), if_neg (by omega), if_neg (fun k => h (cmpI_zero.1 k)), cmpI_neg]
    simp
theorem follows_link {a b : File} {next : Int} (ha : oneF a next = true) (hb : oneF b next = true) : followsF a b = linkF a b := by
  obtain ⟨a1, a2, a3, a4, a5, a6⟩ := oneF_of ha
  obtain ⟨b1, b2, b3, b4, b5, b6⟩ := oneF_of hb
  unfold followsF linkF
  by_cases h : 0 < a.level ∧ a.level = b.level
  · rw [if_pos h, decide_eq_true h.2, decide_eq_true (show 0 < b.level by omega)]
    have e : ahead a b = sless a.first b.first := by unfold ahead; rw [if_neg (by simp [h.2]), if_neg (by omega)]
    rw [e]
    cases hs : sless a.last b.first with
    | true => rw [sle_lt a6 hs]; simp [sle, hs]
    | false => simp [sle, hs]
  · rw [if_neg h]
    have e : (decide (0 < b.level) && decide (a.level = b.level)) = false := by
      rw [Bool.and_eq_false_iff, decide_eq_false_iff_not, decide_eq_false_iff_not]
      omega
    rw [e, Bool.false_and, Bool.not_false, Bool.and_true]
    cases hh : ahead a b with
    | true => rw [decide_eq_true (cmpF_neg.2 hh)]
    | false => exact decide_eq_false (fun k => by rw [cmpF_neg.1 k] at hh; cases hh)
end Go.Lv
set_option linter.unusedVariables false
namespace Go.Lv
open Go.Vk
theorem filter_snoc {α : Type} [Inhabited α] {l : List α} {i : Nat} {p : α → Bool} (h : i < l.length) : (l.take (i + 1)).filter p = (l.take i).filter p ++ if p (l.getD i default) = true then [l.getD i default] else [] := by
  rw [List.take_succ_eq_append_getElem h, List.filter_append, List.getD_eq_getElem?_getD, List.getElem?_eq_getElem h, Option.getD_some]
  congr 1
  rw [List.filter_cons, List.filter_nil]
theorem filter_yes {α : Type} [Inhabited α] {l acc : List α} {i : Nat} {p : α → Bool} (h : i < l.length) (e : acc = (l.take i).filter p) (hp : p (l.getD i default) = true) : acc ++ [l.getD i default] = (l.take (i + 1)).filter p := by
  rw [filter_snoc h, if_pos hp, e]
theorem filter_no {α : Type} [Inhabited α] {l acc : List α} {i : Nat} {p : α → Bool} (h : i < l.length) (e : acc = (l.take i).filter p) (hp : p (l.getD i default) = false) : acc = (l.take (i + 1)).filter p := by
  rw [filter_snoc h, if_neg (by rw [hp]; simp), e, List.append_nil]
theorem filter_end {α : Type} {l acc : List α} {i : Nat} {p : α → Bool} (h : ¬ i < l.length) (e : acc = (l.take i).filter p) : acc = l.filter p := by
  rw [e, List.take_of_length_le (by omega)]
theorem getD_mem {α : Type} [Inhabited α] {l : List α} {i : Nat} (h : i < l.length) : l.getD i default ∈ l := by
  rw [List.getD_eq_getElem?_getD, List.getElem?_eq_getElem h]; simp
/-! ### over -/
def hitF (n : Int) (a b : List UInt8) (f : File) : Bool := decide (f.level = n) && sle a f.last && sle f.first b
def overL (l : List File) (n : Int) (a b : List UInt8) : List File := l.filter (hitF n a b)
theorem over_len (l : List File) (n : Int) (a b : List UInt8) : (overL l n a b).length ≤ l.length := List.length_filter_le _ _
def ordUp (l : List File) (k : List UInt8) : Nat → List File
  | 0 => (overL l 0 k k).reverse
  | n + 1 => ordUp l k n ++ overL l ((n : Int) + 1) k k
theorem ord_len (l : List File) (k : List UInt8) : ∀ n, (ordUp l k n).length ≤ (n + 1) * l.length
  | 0 => by rw [ordUp, List.length_reverse]; have := over_len l 0 k k; omega
  | n + 1 => by
    have h1 := ord_len l k n
    have h2 := over_len l ((n : Int) + 1) k k
    rw [ordUp, List.length_append, Nat.succ_mul (n + 1)]
    omega
/-! ### how the files of a version stand -/
def goodF (f : File) : Prop := (0 ≤ f.level ∧ f.level ≤ 4) ∧ sle f.first f.last = true
def R (a b : File) : Prop := a.level < b.level ∨ (a.level = b.level ∧ (a.level = 0 → a.id < b.id) ∧ (a.level ≠ 0 → sless a.last b.first = true))
theorem R.trans {a b c : File} (hb : goodF b) (h : R a b) (k : R b c) : R a c := by
  unfold R at *
  rcases h with h | ⟨h1, h2, h3⟩
  · rcases k with k | ⟨k1, k2, k3⟩
    · left; omega
    · left; omega
  · rcases k with k | ⟨k1, k2, k3⟩
    · left; omega
    · right
      refine ⟨by omega, fun h0 => ?_, fun h0 => ?_⟩
      · have := h2 h0; have := k2 (by omega); omega
      · exact sless_trans (h3 h0) (sle_lt hb.2 (k3 (by omega)))
theorem R.of_link {a b : File} (ha : goodF a) (hb : goodF b) (h : linkF a b = true) : R a b := by
  have h1 := ha.1.1
  unfold linkF ahead at h
  unfold R
  simp only [Bool.and_eq_true, Bool.not_eq_true', Bool.and_eq_false_iff, decide_eq_false_iff_not] at h
  obtain ⟨h2, h3⟩ := h
  by_cases e : a.level = b.level
  · right
    rw [if_neg (by simp [e])] at h2
    refine ⟨e, fun h0 => ?_, fun h0 => ?_⟩
    · rw [if_pos h0] at h2; simpa using h2
    · rcases h3 with (h3 | h3) | h3
      · omega
      · exact (h3 e).elim
      · unfold sle at h3; simpa using h3
  · left
    rw [if_pos e] at h2
    simpa using h2
theorem good_of {f : File} {next : Int} (h : oneF f next = true) : goodF f := ⟨(oneF_of h).2.1, (oneF_of h).2.2.2.2.2⟩
theorem isV_R {v : Ver} (h : isV v = true) : ∀ j i, i < j → j < v.files.length → R (v.files.getD i default) (v.files.getD j default)
  | 0, i, h1, _ => by omega
  | j + 1, i, h1, h2 => by
    have hs := isV_at h h2
    have hg := good_of (step_one hs)
    have hg' := good_of (step_one (isV_at h (show j < v.files.length by omega)))
    unfold stepV at hs
    simp only [Bool.and_eq_true, Bool.or_eq_true, decide_eq_true_eq] at hs
    have hl : R (v.files.getD j default) (v.files.getD (j + 1) default) := by
      rcases hs.2 with h0 | h0
      · omega
      · rw [Nat.add_sub_cancel] at h0; exact .of_link hg' hg h0
    by_cases e : i = j
    · subst e; exact hl
    · exact (isV_R h j i (by omega) (by omega)).trans hg' hl
theorem isV_pair {v : Ver} (h : isV v = true) : v.files.Pairwise R := by
  rw [List.pairwise_iff_getElem]
  intro i j hi hj hij
  have := isV_R h j i hij hj
  rwa [List.getD_eq_getElem?_getD, List.getElem?_eq_getElem hi, Option.getD_some, List.getD_eq_getElem?_getD, List.getElem?_eq_getElem hj, Option.getD_some] at this
/-- How the files stand that are looked through. -/
def S (a b : File) : Prop := a.level < b.level ∨ (a.level = b.level ∧ a.level = 0 ∧ b.id < a.id)
theorem over_mem {l : List File} {n : Int} {a b : List UInt8} {f : File} (h : f ∈ overL l n a b) : f ∈ l ∧ f.level = n ∧ sle a f.last = true ∧ sle f.first b = true := by
  unfold overL at h
  rw [List.mem_filter] at h
  obtain ⟨h1, h2⟩ := h
  unfold hitF at h2
  simp only [Bool.and_eq_true, decide_eq_true_eq] at h2
  exact ⟨h1, h2.1.1, h2.1.2, h2.2⟩
theorem ord_mem {l : List File} {k : List UInt8} {f : File} : ∀ {n : Nat}, f ∈ ordUp l k n → f ∈ l ∧ f.level ≤ (n : Int) ∧ sle k f.last = true ∧ sle f.first k = true
  | 0, h => by
    rw [ordUp, List.mem_reverse] at h
    obtain ⟨h1, h2, h3⟩ := over_mem h
    exact ⟨h1, by omega, h3⟩
  | n + 1, h => by
    rw [ordUp, List.mem_append] at h
    rcases h with h | h
    · obtain ⟨h1, h2, h3⟩ := ord_mem h
      exact ⟨h1, by omega, h3⟩
    · obtain ⟨h1, h2, h3⟩ := over_mem h
      exact ⟨h1, by omega, h3⟩
theorem ord_pair {v : Ver} (h : isV v = true) (k : List UInt8) : ∀ n : Nat, (ordUp v.files k n).Pairwise S
  | 0 => by
    rw [ordUp, List.pairwise_reverse]
    have hp : (overL v.files 0 k k).Pairwise R := (isV_pair h).filter _
    refine hp.imp_of_mem fun {a b} ha hb hr => ?_
    have h1 := (over_mem ha).2.1
    have h2 := (over_mem hb).2.1
    rcases hr with hr | ⟨_, hr, _⟩
    · omega
    · exact .inr ⟨by omega, by omega, hr h1⟩
  | n + 1 => by
    rw [ordUp, List.pairwise_append]
    refine ⟨ord_pair h k n, ?_, fun a ha b hb => ?_⟩
    · have hp : (overL v.files ((n : Int) + 1) k k).Pairwise R := (isV_pair h).filter _
      refine hp.imp_of_mem fun {a b} ha hb hr => ?_
      obtain ⟨_, a1, a2, a3⟩ := over_mem ha
      obtain ⟨_, b1, b2, b3⟩ := over_mem hb
      rcases hr with hr | ⟨_, _, hr⟩
      · omega
      · exfalso
        have := hr (by omega)
        have h2 := lt_sle (sle_lt a2 this) b3
        rw [sless_irrefl] at h2; cases h2
    · have h1 := (ord_mem ha).2.1
      have h2 := (over_mem hb).2.1
      exact .inl (by omega)
theorem S_at {l : List File} (h : l.Pairwise S) {i : Nat} (hi : i < l.length) (h0 : 0 < i) : S (l.getD (i - 1) default) (l.getD i default) := by
  rw [List.pairwise_iff_getElem] at h
  have := h (i - 1) i (by omega) hi (by omega)
  rwa [List.getD_eq_getElem?_getD, List.getElem?_eq_getElem (show i - 1 < l.length by omega), Option.getD_some, List.getD_eq_getElem?_getD, List.getElem?_eq_getElem hi, Option.getD_some]
/-- How many files have a key. -/
def hasK (k : List UInt8) (f : File) : Bool := sle f.first k && sle k f.last
theorem over_cons (f : File) (l : List File) (n : Int) (k : List UInt8) : (overL (f :: l) n k k).length = (overL l n k k).length + if f.level = n ∧ hasK k f = true then 1 else 0 := by
  unfold overL
  rw [List.filter_cons]
  have e : hitF n k k f = true ↔ f.level = n ∧ hasK k f = true := by unfold hitF hasK; simp; grind
  by_cases h : f.level = n ∧ hasK k f = true
  · rw [if_pos (e.2 h), if_pos h, List.length_cons]
  · rw [if_neg (fun x => h (e.1 x)), if_neg h, Nat.add_zero]
theorem ord_count (k : List UInt8) : ∀ l : List File, (∀ f ∈ l, 0 ≤ f.level ∧ f.level ≤ 4) → (ordUp l k 4).length = (l.filter (hasK k)).length
  | [], _ => rfl
  | f :: l, h => by
    have ih := ord_count k l (fun g hg => h g (by simp [hg]))
    have hf := h f (by simp)
    have c0 := over_cons f l 0 k
    have c1 := over_cons f l 1 k
    have c2 := over_cons f l 2 k
    have c3 := over_cons f l 3 k
    have c4 := over_cons f l 4 k
    have e : ∀ m : List File, (ordUp m k 4).length = (overL m 0 k k).length + (overL m 1 k k).length + (overL m 2 k k).length + (overL m 3 k k).length + (overL m 4 k k).length := fun m => by
      simp only [ordUp, List.length_append, List.length_reverse]
      rfl
    rw [e] at ih ⊢
    rw [List.filter_cons]
    cases hk : hasK k f with
    | false =>
      simp only [hk] at c0 c1 c2 c3 c4
      simp at c0 c1 c2 c3 c4
      rw [if_neg (by simp)]
      omega
    | true =>
      simp only [hk, and_true] at c0 c1 c2 c3 c4
      rw [if_pos rfl, List.length_cons]
      rcases (by omega : f.level = 0 ∨ f.level = 1 ∨ f.level = 2 ∨ f.level = 3 ∨ f.level = 4) with h5 | h5 | h5 | h5 | h5 <;> rw [h5] at c0 c1 c2 c3 c4 <;> simp at c0 c1 c2 c3 c4 <;> omega
/-! ### what is due -/
def atL (l : List File) (n : Int) : List File := l.filter fun f => decide (f.level = n)
def smin (a b : List UInt8) : List UInt8 := if sless a b || a == b then a else b
def smax (a b : List UInt8) : List UInt8 := if sless a b then b else a
def spanF (s : List UInt8 × List UInt8) (f : File) : List UInt8 × List UInt8 := (smin s.1 f.first, smax s.2 f.last)
def span0 (l : List File) : List UInt8 × List UInt8 := ((l.getD 0 default).first, (l.getD 0 default).last)
def span (l : List File) : List UInt8 × List UInt8 := l.foldl spanF (span0 l)
def oldF (f g : File) : File := if g.id < f.id then g else f
def oldest (l : List File) : File := l.foldl oldF (l.getD 0 default)
theorem foldl_snoc {α β : Type} [Inhabited α] {l : List α} {i : Nat} (f : β → α → β) (b : β) (h : i < l.length) : (l.take (i + 1)).foldl f b = f ((l.take i).foldl f b) (l.getD i default) := by
  rw [List.take_succ_eq_append_getElem h, List.foldl_append, List.getD_eq_getElem?_getD, List.getElem?_eq_getElem h]; rfl
theorem foldl_full {α β : Type} {l : List α} {i : Nat} (f : β → α → β) (b : β) (h : ¬ i < l.length) : (l.take i).foldl f b = l.foldl f b := by
  rw [List.take_of_length_le (by omega)]
theorem smin_self (a : List UInt8) : smin a a = a := by unfold smin; simp
theorem smax_self (a : List UInt8) : smax a a = a := by unfold smax; simp
theorem span_one (f : File) : span [f] = (f.first, f.last) := by
  show spanF (f.first, f.last) f = _
  unfold spanF; dsimp only; rw [smin_self, smax_self]
def withL (l : List File) (n : Int) (p : List File) : List File := p ++ overL l (n + 1) (span p).1 (span p).2
def due (l : List File) (n : Int) : Bool := decide ((4 : Int) ^ n.toNat < ((atL l n).length : Int))
def pickL (l : List File) : List File × Bool :=
  if 4 ≤ ((atL l 0).length : Int) then (withL l 0 (atL l 0), true)
  else if 4 < ((atL l 1).length : Int) then (withL l 1 [oldest (atL l 1)], true)
  else if 16 < ((atL l 2).length : Int) then (withL l 2 [oldest (atL l 2)], true)
  else if 64 < ((atL l 3).length : Int) then (withL l 3 [oldest (atL l 3)], true)
  else ([], false)
def pickV (v : Ver) : List File × Bool := if isV v = true then pickL v.files else ([], false)
theorem at_mem {l : List File} {n : Int} {f : File} (h : f ∈ atL l n) : f ∈ l ∧ f.level = n := by
  unfold atL at h
  rw [List.mem_filter] at h
  simpa using h
theorem at_len (l : List File) (n : Int) : (atL l n).length ≤ l.length := List.length_filter_le _ _
theorem foldl_mem : ∀ (l : List File) (f : File), l.foldl oldF f = f ∨ l.foldl oldF f ∈ l
  | [], f => .inl rfl
  | g :: l, f => by
    rw [List.foldl_cons]
    rcases foldl_mem l (oldF f g) with h | h
    · rw [h]
      unfold oldF
      split
      · right; simp
      · left; rfl
    · right; simp [h]
theorem oldest_mem {l : List File} (h : 0 < l.length) : oldest l ∈ l := by
  unfold oldest
  rcases foldl_mem l (l.getD 0 default) with e | e
  · rw [e]; exact getD_mem h
  · exact e
/-- What was picked: files of one level, and those of the next that have keys of theirs. -/
structure Picked (l p : List File) (n : Int) (z : List File) : Prop where
  eq : p = withL l n z
  pos : 0 < z.length
  lev : ∀ f ∈ z, f.level = n
  sub : ∀ f ∈ z, f ∈ l
theorem pick_true {l : List File} (h : (pickL l).2 = true) : ∃ n z, Picked l (pickL l).1 n z := by
  unfold pickL at *
  split at h
  · rename_i h1
    rw [if_pos h1]
    exact ⟨0, atL l 0, rfl, by omega, fun f hf => (at_mem hf).2, fun f hf => (at_mem hf).1⟩
  · rename_i h0
    rw [if_neg h0]
    split at h
    · rename_i h1
      rw [if_pos h1]
      have := at_mem (oldest_mem (l := atL l 1) (by omega))
      exact ⟨1, _, rfl, by simp, fun f hf => by simp at hf; subst hf; exact this.2, fun f hf => by simp at hf; subst hf; exact this.1⟩
    · rename_i h1
      rw [if_neg h1]
      split at h
      · rename_i h2
        rw [if_pos h2]
        have := at_mem (oldest_mem (l := atL l 2) (by omega))
        exact ⟨2, _, rfl, by simp, fun f hf => by simp at hf; subst hf; exact this.2, fun f hf => by simp at hf; subst hf; exact this.1⟩
      · rename_i h2
        rw [if_neg h2]
        split at h
        · rename_i h3
          rw [if_pos h3]
          have := at_mem (oldest_mem (l := atL l 3) (by omega))
          exact ⟨3, _, rfl, by simp, fun f hf => by simp at hf; subst hf; exact this.2, fun f hf => by simp at hf; subst hf; exact this.1⟩
        · cases h
theorem pick_false {l : List File} (h : (pickL l).2 = false) : (pickL l).1 = [] := by
  unfold pickL at *
  split at h
  · cases h
  rename_i h0
  rw [if_neg h0]
  split at h
  · cases h
  rename_i h1
  rw [if_neg h1]
  split at h
  · cases h
  rename_i h2
  rw [if_neg h2]
  split at h
  · cases h
  rename_i h3
  rw [if_neg h3]
theorem Picked.plen {l p z : List File} {n : Int} (h : Picked l p n z) : 0 < p.length := by rw [h.eq, withL, List.length_append]; have := h.pos; omega
theorem Picked.zero {l p z : List File} {n : Int} (h : Picked l p n z) : p.getD 0 default = z.getD 0 default ∧ (p.getD 0 default).level = n := by
  have e : p.getD 0 default = z.getD 0 default := by
    rw [h.eq, withL, List.getD_eq_getElem?_getD, List.getElem?_append_left h.pos, ← List.getD_eq_getElem?_getD]
  exact ⟨e, by rw [e]; exact h.lev _ (getD_mem h.pos)⟩
theorem Picked.levels {l p z : List File} {n : Int} (h : Picked l p n z) {f : File} (hf : f ∈ p) : f.level = n ∨ f.level = n + 1 := by
  rw [h.eq, withL, List.mem_append] at hf
  rcases hf with hf | hf
  · exact .inl (h.lev f hf)
  · exact .inr (over_mem hf).2.1
/-- The span, told again of what was picked. -/
def spanN (n : Int) (s : List UInt8 × List UInt8) (f : File) : List UInt8 × List UInt8 := if f.level = n then spanF s f else s
theorem spanN_all {n : Int} : ∀ {l : List File} (s : List UInt8 × List UInt8), (∀ f ∈ l, f.level = n) → l.foldl (spanN n) s = l.foldl spanF s
  | [], s, _ => rfl
  | f :: l, s, h => by
    rw [List.foldl_cons, List.foldl_cons, spanN, if_pos (h f (by simp))]
    exact spanN_all _ (fun g hg => h g (by simp [hg]))
theorem spanN_none {n : Int} : ∀ {l : List File} (s : List UInt8 × List UInt8), (∀ f ∈ l, f.level ≠ n) → l.foldl (spanN n) s = s
  | [], s, _ => rfl
  | f :: l, s, h => by
    rw [List.foldl_cons, spanN, if_neg (h f (by simp))]
    exact spanN_none _ (fun g hg => h g (by simp [hg]))
theorem Picked.span {l p z : List File} {n : Int} (h : Picked l p n z) : p.foldl (spanN n) (span0 p) = Lv.span z := by
  have e : span0 p = span0 z := by unfold span0; rw [h.zero.1]
  rw [e, h.eq, withL, List.foldl_append, spanN_all _ h.lev, spanN_none]
  · rfl
  · intro f hf
    have := (over_mem hf).2.1
    omega
theorem Picked.over {l p z : List File} {n : Int} (h : Picked l p n z) {f : File} (hf : f ∈ overL l (n + 1) (Lv.span z).1 (Lv.span z).2) : f ∈ p := by
  rw [h.eq, withL, List.mem_append]; exact .inr hf
end Go.Lv
set_option maxRecDepth 8000
set_option linter.unusedVariables false
namespace Go.Proofs.Ytohhhaeemephnaa
open Go.Vk
attribute [local irreducible] HT HX RegS RegA RegM OpP OpC AltT
theorem lvNaNi (n : Int) : CFn Try.prog 68 [okI .i64 n] (Is (.bool false)) := by
  refine CallsC.of Try.call68 Try.func68 rfl Try.ntmps68 rfl fun w0 G0 S0 hs ho => ?_
  exact run trivial
theorem lvNaNs (l : List UInt8) : CFn Try.prog 69 [Is (str l)] (Is (.bool false)) := by
  refine CallsC.of Try.call69 Try.func69 rfl Try.ntmps69 rfl fun w0 G0 S0 hs ho => ?_
  refine run ?_
  simp
theorem lvCmpI (m n : Int) : CFn Try.prog 62 [okI .i64 m, okI .i64 n] (okI .i64 (Lv.cmpI m n)) := by
  have c1 := lvNaNi
  unfold Lv.cmpI
  refine CallsC.of Try.call62 Try.func62 rfl Try.ntmps62 rfl fun w0 G0 S0 hs ho => ?_
  exact run trivial
theorem lvCmpS (a b : List UInt8) : CFn Try.prog 64 [Is (str a), Is (str b)] (okI .i64 (Lv.cmpS a b)) := by
  have c1 := lvNaNs
  have e := sgt_eq a b
  unfold Lv.cmpS
  refine CallsC.of Try.call64 Try.func64 rfl Try.ntmps64 rfl fun w0 G0 S0 hs ho => ?_
  refine run ?_
  have e0 : ((sless a b || a == b) = false) = (sless b a = true) := by rw [← e]; simp
  rw [Bool.or_eq_false_iff] at e0
  grind
theorem lvOrL (m n : Int) : CFn Try.prog 63 [TSl 1 cI [m, n]] (okI .i64 (if m = 0 then n else m)) := by
  refine CallsC.of Try.call63 Try.func63 rfl Try.ntmps63 rfl fun w0 G0 S0 hs ho => ?_
  refine run ?_
  refine HT.loopX (σ := Nat) [3, 6, 7] (fun i => [(8, okI .i64 (i : Int))]) (fun _ => []) (fun i => i ≤ 2 ∧ (0 < i → m = 0) ∧ (1 < i → n = 0)) (fun i => 2 - i) 0 ⟨Nat.zero_le _, by omega, by omega⟩ (run trivial) (run trivial) ?_
  rintro i ⟨hi, h1, h2⟩
  have h0 : ([m, n] : List Int).length = 2 := rfl
  rcases (by omega : i = 0 ∨ i = 1 ∨ i = 2) with rfl | rfl | rfl
  · refine run ?_
    refine ⟨fun _ (h3 : m ≠ 0) => (if_neg h3).symm, fun _ h3 => ?_⟩
    have h4 : m = 0 := Decidable.not_not.1 h3
    exact HX.roundX 1 ⟨⟨by omega, fun _ => h4, by omega⟩, by omega⟩ rfl (run trivial) (run trivial)
  · refine run ?_
    refine ⟨fun _ (h3 : n ≠ 0) => (if_pos (h1 (by omega))).symm, fun _ h3 => ?_⟩
    have h4 : n = 0 := Decidable.not_not.1 h3
    exact HX.roundX 2 ⟨⟨by omega, fun _ => h1 (by omega), fun _ => h4⟩, by omega⟩ rfl (run trivial) (run trivial)
  · exact run trivial
theorem lvOr (m n : Int) : CFn Try.prog 63 [TSlX 1 (fun ts : List Ty => ts) [[okI .i64 m], [okI .i64 n]]] (okI .i64 (if m = 0 then n else m)) := CFn.sub (lvOrL m n) (TsSub.cons (Sub.slxT rfl) TsSub.nil)
theorem lvCompare (a b : Lv.File) : CFn Try.prog 51 [TAgg (Lv.cFile a), TAgg (Lv.cFile b)] (okI .i64 (Lv.cmpF a b)) := by
  have c1 := lvCmpI
  have c2 := lvCmpS
  have c3 := lvOr
  unfold Lv.cmpF
  refine CallsC.of Try.call51 Try.func51 rfl Try.ntmps51 rfl fun w0 G0 S0 hs ho => ?_
  exact run trivial
theorem lvFollows (a b : Lv.File) : CFn Try.prog 39 [TAgg (Lv.cFile a), TAgg (Lv.cFile b)] (Is (.bool (Lv.followsF a b))) := by
  have c1 := lvCompare
  unfold Lv.followsF
  refine CallsC.of Try.call39 Try.func39 rfl Try.ntmps39 rfl fun w0 G0 S0 hs ho => ?_
  refine run ?_
  exact ⟨fun h => by rw [if_pos h], fun h => by rw [if_neg (by omega)]⟩
theorem lvIsKey (s : List UInt8) : CFn Try.prog 38 [Is (str s)] (Is (.bool (Lv.keyB s))) := by
  unfold Lv.keyB
  refine CallsC.of Try.call38 Try.func38 rfl Try.ntmps38 rfl fun w0 G0 S0 hs ho => ?_
  exact run trivial
attribute [local irreducible] Lv.oneF Lv.ahead Lv.keyB Lv.isV Lv.seenV Lv.uptoV Lv.followsF Lv.linkF
set_option maxHeartbeats 2000000 in
theorem lvIs (v : Lv.Ver) : CFn Try.prog 19 [TAgg (Lv.cVer v)] (Is (.bool (Lv.isV v))) := by
  have c1 := lvIsKey
  have c2 := lvFollows
  have mk := MkMap.mk' 20 (fun b : Bool => Is (.bool b)) false
  refine CallsC.of Try.call19 Try.func19 rfl Try.ntmps19 rfl fun w0 G0 S0 hs ho => ?_
  refine run ?_
  refine ⟨fun h => (Lv.isV_no0 h).symm, fun v0 h => ?_⟩
  refine HT.loopX (σ := Nat × (Lit → Bool)) [1, 3, 22, 23] (fun t => [(24, okI .i64 (t.1 : Int))]) (fun t => [ownMp Try.prog 3 4 (mblk v0) t.1 (fun b : Bool => Is (.bool b)) t.2]) (fun t => t.1 ≤ v.files.length ∧ Lv.uptoV v.files v.next t.1 = true ∧ ∀ n, t.2 (.int .i64 n) = Lv.seenV v.files t.1 n) (fun t => v.files.length - t.1) (0, fun _ => false) ⟨Nat.zero_le _, Lv.upto_0 _ _, fun n => (Lv.seen_0 _ _).symm⟩ (run trivial) (run trivial) ?_
  rintro ⟨i, m⟩ ⟨hi, hu, hm⟩
  dsimp only at hi hu hm ⊢
  by_cases hlt : i < v.files.length
  · have hse := Lv.step_eq v.files v.next i
    have e2 : ((i : Int) - 1).toNat = i - 1 := by omega
    have hprev : ∀ n, i = n + 1 → Lv.oneF (v.files.getD n default) v.next = true := fun n hn => Lv.step_one (by
      have := Lv.upto_le (n := n + 1) (by omega) hu
      rw [Lv.upto_succ, Bool.and_eq_true] at this
      exact this.2)
    refine run ?_
    rw [e2]
    refine ⟨fun _ _ h1 => ?_, fun _ _ h1 h2 => ?_, fun _ _ h1 h2 => ?_⟩
    · rw [hm] at h1
      exact (Lv.isV_no1 hlt (by rw [hse]; exact Lv.step_no1 h1)).symm
    · rw [hm] at h1
      refine (Lv.isV_no1 hlt ?_).symm
      rw [hse]
      rcases h2 with h2 | ⟨h3, h4⟩
      · exact Lv.step_no2 h2
      · by_cases hk : (Lv.keyB (v.files.getD i default).first = false ∨ Lv.keyB (v.files.getD i default).last = false) ∨ sless (v.files.getD i default).first (v.files.getD i default).last = false ∧ ((v.files.getD i default).first == (v.files.getD i default).last) = false
        · exact Lv.step_no2 hk
        · have h5 := Lv.one_yes h1 (by revert hk; clear hm hprev hse c1 c2; generalize ((v.files.getD i default).first == (v.files.getD i default).last) = q; grind)
          rw [← Lv.follows_link (hprev (i - 1) (by omega)) h5, h4, decide_eq_false (by omega)]
          simp
    · rw [hm] at h1
      have h5 := Lv.one_yes h1 h2.1
      have h6 : Lv.stepV v.files v.next i = true := by
        rw [hse, h5, h1.1.1.1.1.2]
        rcases h2.2 with h3 | h3
        · rw [decide_eq_true (show i = 0 by omega)]; rfl
        · by_cases hz : i = 0
          · rw [decide_eq_true hz]; rfl
          · rw [← Lv.follows_link (hprev (i - 1) (by omega)) h5, h3]; simp
      refine HX.roundX (i + 1, updM m (.int .i64 (v.files.getD i default).id) true) ⟨⟨by dsimp only; omega, by dsimp only; rw [Lv.upto_succ, hu, h6]; rfl, fun n => ?_⟩, by dsimp only; omega⟩ rfl (run trivial) (run trivial)
      dsimp only
      rw [Lv.seen_succ hlt]
      by_cases hn : (v.files.getD i default).id = n
      · rw [hn, updM_same]; simp
      · rw [updM_ne (fun e => hn (by cases e; rfl)), hm, decide_eq_false hn]; simp
  · have := Lv.isV_yes h hlt hi hu
    rw [this]
    exact run trivial
end Go.Proofs.Ytohhhaeemephnaa
set_option linter.unusedVariables false
namespace Go.Lv
open Go.Vk
/-- How many of the first files each level has. -/
def cnt (l : List File) (i : Nat) (n : Int) : Int := ((atL (l.take i) n).length : Int)
def cnts (l : List File) (i : Nat) : List Int := [cnt l i 0, cnt l i 1, cnt l i 2, cnt l i 3, cnt l i 4]
theorem cnt_succ {l : List File} {i : Nat} (h : i < l.length) (n : Int) : cnt l (i + 1) n = cnt l i n + if (l.getD i default).level = n then 1 else 0 := by
  unfold cnt atL
  rw [filter_snoc h, List.length_append]
  by_cases e : (l.getD i default).level = n
  · rw [if_pos (by simpa using e), if_pos e]; simp
  · rw [if_neg (by simpa using e), if_neg e]; simp
theorem cnt_le (l : List File) (i : Nat) (n : Int) : 0 ≤ cnt l i n ∧ cnt l i n ≤ (l.length : Int) := by
  unfold cnt atL
  have h1 := List.length_filter_le (fun f : File => decide (f.level = n)) (l.take i)
  rw [List.length_take] at h1
  omega
theorem cnts_at {l : List File} {i : Nat} {n : Int} (h : 0 ≤ n ∧ n ≤ 4) : (cnts l i).getD n.toNat default = cnt l i n := by
  rcases (by omega : n = 0 ∨ n = 1 ∨ n = 2 ∨ n = 3 ∨ n = 4) with rfl | rfl | rfl | rfl | rfl <;> rfl
theorem cnts_set {l : List File} {i : Nat} (h : i < l.length) (hn : 0 ≤ (l.getD i default).level ∧ (l.getD i default).level ≤ 4) : (cnts l i).set (l.getD i default).level.toNat ((cnts l i).getD (l.getD i default).level.toNat default + 1) = cnts l (i + 1) := by
  rw [cnts_at hn]
  unfold cnts
  rw [cnt_succ h, cnt_succ h, cnt_succ h, cnt_succ h, cnt_succ h]
  rcases (by omega : (l.getD i default).level = 0 ∨ (l.getD i default).level = 1 ∨ (l.getD i default).level = 2 ∨ (l.getD i default).level = 3 ∨ (l.getD i default).level = 4) with e | e | e | e | e <;> rw [e] <;> simp
theorem cnts_len (l : List File) (i : Nat) : (cnts l i).length = 5 := rfl
theorem cnts_flat (l : List File) (i : Nat) : (cnts l i).flatMap cI = [okI .i64 (cnt l i 0), okI .i64 (cnt l i 1), okI .i64 (cnt l i 2), okI .i64 (cnt l i 3), okI .i64 (cnt l i 4)] := rfl
theorem cnts_zero (l : List File) : (cnts l 0).flatMap cI = [okI .i64 0, okI .i64 0, okI .i64 0, okI .i64 0, okI .i64 0] := rfl
theorem cnt_full (l : List File) (n : Int) : cnt l l.length n = ((atL l n).length : Int) := by unfold cnt; rw [List.take_length]
theorem getD_last {α : Type} (l : List α) (a d : α) : (l ++ [a]).getD l.length d = a := by simp [List.getD_eq_getElem?_getD]
theorem getD_left {α : Type} {l : List α} {j : Nat} (h : j < l.length) (m : List α) (d : α) : (l ++ m).getD j d = l.getD j d := by
  rw [List.getD_eq_getElem?_getD, List.getD_eq_getElem?_getD, List.getElem?_append_left h]
/-- Where the first files stand. -/
noncomputable def mpL (l : List File) : Nat → Lit → File
  | 0 => fun _ => default
  | i + 1 => updM (mpL l i) (pk2 (l.getD i default).level (cnt l i (l.getD i default).level)) (l.getD i default)
theorem mpL_0 (l : List File) : mpL l 0 = fun _ => default := rfl
theorem mpL_succ (l : List File) (i : Nat) : updM (mpL l i) (pk2 (l.getD i default).level (cnt l i (l.getD i default).level)) (l.getD i default) = mpL l (i + 1) := rfl
theorem mpL_at (hinj : ∀ a b c d : Int, (0 ≤ a ∧ a ≤ 4) → (0 ≤ b ∧ b ≤ 1152921504606846976) → (0 ≤ c ∧ c ≤ 4) → (0 ≤ d ∧ d ≤ 1152921504606846976) → pk2 a b = pk2 c d → a = c ∧ b = d) {l : List File} (hl : l.length ≤ 1152921504606846976) (hv : ∀ i, i < l.length → 0 ≤ (l.getD i default).level ∧ (l.getD i default).level ≤ 4) {n : Int} (hn : 0 ≤ n ∧ n ≤ 4) : ∀ i, i ≤ l.length → ∀ j : Nat, (j : Int) < cnt l i n → mpL l i (pk2 n (j : Int)) = (atL (l.take i) n).getD j default
  | 0, _, j, hj => by
    have : cnt l 0 n = 0 := rfl
    omega
  | i + 1, hi, j, hj => by
    have hlt : i < l.length := by omega
    have ih := mpL_at hinj hl hv hn i (by omega) j
    have hc := cnt_succ hlt n
    have hb := cnt_le l i n
    have hb' := cnt_le l i (l.getD i default).level
    have hf := hv i hlt
    rw [mpL]
    have ha : atL (l.take (i + 1)) n = atL (l.take i) n ++ if (l.getD i default).level = n then [l.getD i default] else [] := by
      unfold atL
      rw [filter_snoc hlt]
      by_cases e : (l.getD i default).level = n
      · rw [if_pos (by simpa using e), if_pos e]
      · rw [if_neg (by simpa using e), if_neg e]
    rw [ha]
    by_cases e : (l.getD i default).level = n
    · rw [if_pos e] at hc ⊢
      rw [e]
      by_cases ej : (j : Int) = cnt l i n
      · rw [ej, updM_same]
        have : j = (atL (l.take i) n).length := by unfold cnt at ej; omega
        subst this
        exact (getD_last _ _ _).symm
      · rw [updM_ne (fun x => ej (hinj _ _ _ _ hn (by omega) hn (by omega) x).2), ih (by omega)]
        exact (getD_left (by unfold cnt at *; omega) _ _).symm
    · rw [if_neg e] at hc ⊢
      rw [updM_ne (fun x => e (hinj _ _ _ _ hn (by omega) hf (by omega) x).1.symm), ih (by omega), List.append_nil]
end Go.Lv
set_option maxRecDepth 8000
set_option linter.unusedVariables false
namespace Go.Proofs.Ytohhhaeemephnaa
open Go.Vk
attribute [local irreducible] HT HX RegS RegA RegM OpP OpC AltT
theorem plKey : WideMaps.ArrKey Try.prog 60 3 2 := ⟨by kernel_rfl, by kernel_rfl, by kernel_rfl, by kernel_rfl⟩
theorem plSize : ∃ m, Try.prog.types.size = m + 1 := ⟨Try.prog.types.size - 1, by decide +kernel⟩
theorem intU : Try.prog.underlying 3 = some (.int .i64) := by kernel_rfl
theorem keyPl {a b : Int} (ha : 0 ≤ a ∧ a ≤ 4) (hb : 0 ≤ b ∧ b ≤ 1152921504606846976) : KeyT Try.prog 60 (TAgg [okI .i64 a, okI .i64 b]) (pk2 a b) := KeyT.two plKey intU plSize (by omega) (by omega)
theorem keyInj (a b c d : Int) (ha : 0 ≤ a ∧ a ≤ 4) (hb : 0 ≤ b ∧ b ≤ 1152921504606846976) (hc : 0 ≤ c ∧ c ≤ 4) (hd : 0 ≤ d ∧ d ≤ 1152921504606846976) (h : pk2 a b = pk2 c d) : a = c ∧ b = d := pk2_inj plKey intU plSize (by omega) (by omega) (by omega) (by omega) h
theorem plKeyed : Go.Maps.Keyed Try.prog 60 := Go.Maps.Keyed.of_law plKey.law
/-- The map of places, in a block. -/
noncomputable abbrev MpR (g : Nat) (l : List Lv.File) (i : Nat) : Res := ownMp Try.prog 60 31 g i (fun f : Lv.File => TAgg (Lv.cFile f)) (Lv.mpL l i)
theorem rowZero (g : Nat) (l : List Lv.File) : RSub (ownP g 55 [okI .i64 0, okI .i64 0, okI .i64 0, okI .i64 0, okI .i64 0]) (ownA g 5 55 1 cI (Lv.cnts l 0)) := RSub.rowA (f := cI) (l := Lv.cnts l 0) (fun _ _ => rfl) (Lv.cnts_zero l) (by rw [Lv.cnts_len]; decide)
theorem rowBack (g : Nat) (l : List Lv.File) (i : Nat) : RSub (ownA g 5 55 1 cI (Lv.cnts l i)) (ownP g 55 [okI .i64 (Lv.cnt l i 0), okI .i64 (Lv.cnt l i 1), okI .i64 (Lv.cnt l i 2), okI .i64 (Lv.cnt l i 3), okI .i64 (Lv.cnt l i 4)]) := RSub.rowP (f := cI) (l := Lv.cnts l i) (Lv.cnts_flat l i)
attribute [local irreducible] Lv.cnts Lv.cnt Lv.mpL pk2
set_option maxHeartbeats 4000000 in
theorem lvLevels (v : Lv.Ver) (hl : v.files.length ≤ 1024) (hv : ∀ i, i < v.files.length → 0 ≤ (v.files.getD i default).level ∧ (v.files.getD i default).level ≤ 4) : CallsC Try.prog 28 [TAgg (Lv.cVer v)] [] (fun u => TTup [TAgg [okI .i64 (Lv.cnt v.files v.files.length 0), okI .i64 (Lv.cnt v.files v.files.length 1), okI .i64 (Lv.cnt v.files v.files.length 2), okI .i64 (Lv.cnt v.files v.files.length 3), okI .i64 (Lv.cnt v.files v.files.length 4)], Is (mpV (sndM u))]) (fun u => [MpR (sndM u) v.files v.files.length]) := by
  have hset : SetF cI 0 (fun n : Int => okI .i64 n) (fun _ b => b) := ⟨fun a b => rfl⟩
  have hkd := plKeyed
  have mk := MkMap.mk' 8 (fun f : Lv.File => TAgg (Lv.cFile f)) (default : Lv.File)
  have st2 := Stop.mk' 2
  have pl := Plan.mk' 6 [(0,3,[]),(1,3,[]),(2,2,[3]),(3,3,[]),(4,2,[3]),(5,2,[1]),(6,2,[1]),(7,3,[]),(8,2,[3]),(9,0,[])]
  refine CallsC.of Try.call28 Try.func28 rfl Try.ntmps28 rfl fun w0 G0 S0 hs ho => ?_
  refine run ?_
  intro v1 v2
  refine HTs.mk ?_
  clear st2
  refine HT.rsub 1 rfl (rowZero (blk v2) v.files) ?_
  refine run ?_
  intro v3
  rw [← Lv.mpL_0 v.files]
  refine HT.loopX (σ := Nat) [2, 3, 4, 5, 10, 11] (fun i => [(12, okI .i64 (i : Int))]) (fun i => [ownP (blk v1) 55 [okI .i64 0, okI .i64 0, okI .i64 0, okI .i64 0, okI .i64 0], ownA (blk v2) 5 55 1 cI (Lv.cnts v.files i), MpR (mblk v3) v.files i]) (fun i => i ≤ v.files.length) (fun i => v.files.length - i) 0 (Nat.zero_le _) (run trivial) (run trivial) ?_
  intro i hi
  by_cases hlt : i < v.files.length
  · have h1 := hv i hlt
    have h2 := Lv.cnts_at (l := v.files) (i := i) h1
    have h3 := Lv.cnt_le v.files i (v.files.getD i default).level
    have h4 := Lv.cnts_len v.files i
    have h5 : 0 ≤ (Lv.cnts v.files i).getD (v.files.getD i default).level.toNat default ∧ (Lv.cnts v.files i).getD (v.files.getD i default).level.toNat default ≤ 1024 := by omega
    have h6 := Lv.cnts_set hlt h1
    have h7 := keyPl h1 (b := (Lv.cnts v.files i).getD (v.files.getD i default).level.toNat default) (by omega)
    have h8 := Lv.mpL_succ v.files i
    rw [← h2] at h8
    refine run ?_
    intro _ _
    rw [h6, h8]
    exact HX.roundX (i + 1) ⟨by omega, by omega⟩ rfl (run trivial) (run trivial)
  · have e : i = v.files.length := by omega
    subst e
    have st9 := Stop.mk' 9
    refine run ?_
    intro _
    refine HTs.mk ?_
    clear st9
    refine HT.rsub 1 rfl (rowBack (blk v2) v.files v.files.length) ?_
    exact run trivial
end Go.Proofs.Ytohhhaeemephnaa
set_option maxRecDepth 8000
set_option linter.unusedVariables false
namespace Go.Proofs.Ytohhhaeemephnaa
open Go.Vk
attribute [local irreducible] HT HX RegS RegA RegM OpP OpC AltT
attribute [local irreducible] Lv.overL Lv.hitF
theorem hit_yes {n : Int} {a b : List UInt8} {f : Lv.File} (h : (f.level = n ∧ sless f.last a = false) ∧ (sless f.first b = true ∨ (f.first == b) = true)) : Lv.hitF n a b f = true := by
  have e := sle_eq f.first b
  unfold Lv.hitF
  rw [decide_eq_true h.1.1, ← e]
  unfold sle
  rw [h.1.2]
  simp only [Bool.true_and, Bool.not_false, Bool.or_eq_true]
  exact h.2
theorem hit_no {n : Int} {a b : List UInt8} {f : Lv.File} (h : (¬ f.level = n ∨ sless f.last a = true) ∨ (sless f.first b = false ∧ (f.first == b) = false)) : Lv.hitF n a b f = false := by
  have e := sle_eq f.first b
  unfold Lv.hitF
  rcases h with (h | h) | ⟨h, k⟩
  · rw [decide_eq_false h]; simp
  · unfold sle; rw [h]; simp
  · rw [← e, h, k]; simp
theorem lvOver (v : Lv.Ver) (n : Int) (a b : List UInt8) (hl : v.files.length ≤ 100000) : CFn Try.prog 30 [TAgg (Lv.cVer v), okI .i64 n, Is (str a), Is (str b)] (TSl 5 Lv.cFile (Lv.overL v.files n a b)) := by
  refine CallsC.of Try.call30 Try.func30 rfl Try.ntmps30 rfl fun w0 G0 S0 hs ho => ?_
  refine run ?_
  refine HT.loopX (σ := Nat × List Lv.File × Value) [1, 2, 3, 8, 13, 14] (fun t => [(9, TAnd (Is t.2.2) (TSl 5 Lv.cFile t.2.1)), (15, okI .i64 (t.1 : Int))]) (fun t => [ownSl t.2.2 5 31]) (fun t => t.1 ≤ v.files.length ∧ t.2.1 = (v.files.take t.1).filter (Lv.hitF n a b) ∧ t.2.1.length ≤ t.1) (fun t => v.files.length - t.1) (0, [], .slice none 0 0) ⟨Nat.zero_le _, rfl, Nat.le_refl _⟩ (run trivial) (run trivial) ?_
  rintro ⟨i, acc, u⟩ ⟨hi, ha, hal⟩
  dsimp only at hi ha hal ⊢
  by_cases hlt : i < v.files.length
  · refine run ?_
    refine ⟨fun _ u' _ h => ?_, fun _ _ h => ?_⟩
    · exact HX.roundX (i + 1, acc ++ [v.files.getD i default], u') ⟨⟨by dsimp only; omega, Lv.filter_yes hlt ha (hit_yes h), by dsimp only; rw [List.length_append]; simp; omega⟩, by dsimp only; omega⟩ rfl (run trivial) (run trivial)
    · exact HX.roundX (i + 1, acc, u) ⟨⟨by dsimp only; omega, Lv.filter_no hlt ha (hit_no h), by dsimp only; omega⟩, by dsimp only; omega⟩ rfl (run trivial) (run trivial)
  · have hf := Lv.filter_end hlt ha
    have hf' : acc = Lv.overL v.files n a b := hf.trans (by unfold Lv.overL; rfl)
    rw [← hf']
    exact run trivial
theorem pick_0 {v : Lv.Ver} (h : Lv.isV v = false) : Lv.pickV v = ([], false) := if_neg (by rw [h]; simp)
theorem pick_1 {v : Lv.Ver} (h : Lv.isV v = true) : Lv.pickV v = Lv.pickL v.files := if_pos h
theorem take_snoc {l acc : List Lv.File} {i : Nat} (h : i < l.length) (e : acc = l.take i) : acc ++ [l.getD i default] = l.take (i + 1) := by
  rw [List.take_succ_eq_append_getElem h, e, List.getD_eq_getElem?_getD, List.getElem?_eq_getElem h]; rfl
theorem old_step {l : List Lv.File} {i : Nat} (h : i < l.length) : Lv.oldF ((l.take i).foldl Lv.oldF (l.getD 0 default)) (l.getD i default) = (l.take (i + 1)).foldl Lv.oldF (l.getD 0 default) := (Lv.foldl_snoc Lv.oldF _ h).symm
theorem pickL_0 {l : List Lv.File} (h : 4 ≤ ((Lv.atL l 0).length : Int)) : Lv.pickL l = (Lv.withL l 0 (Lv.atL l 0), true) := if_pos h
theorem pickL_1 {l : List Lv.File} (h : ¬ 4 ≤ ((Lv.atL l 0).length : Int)) (h1 : 4 < ((Lv.atL l 1).length : Int)) : Lv.pickL l = (Lv.withL l 1 [Lv.oldest (Lv.atL l 1)], true) := by unfold Lv.pickL; rw [if_neg h, if_pos h1]
theorem pickL_2 {l : List Lv.File} (h : ¬ 4 ≤ ((Lv.atL l 0).length : Int)) (h1 : ¬ 4 < ((Lv.atL l 1).length : Int)) (h2 : 16 < ((Lv.atL l 2).length : Int)) : Lv.pickL l = (Lv.withL l 2 [Lv.oldest (Lv.atL l 2)], true) := by unfold Lv.pickL; rw [if_neg h, if_neg h1, if_pos h2]
theorem pickL_3 {l : List Lv.File} (h : ¬ 4 ≤ ((Lv.atL l 0).length : Int)) (h1 : ¬ 4 < ((Lv.atL l 1).length : Int)) (h2 : ¬ 16 < ((Lv.atL l 2).length : Int)) (h3 : 64 < ((Lv.atL l 3).length : Int)) : Lv.pickL l = (Lv.withL l 3 [Lv.oldest (Lv.atL l 3)], true) := by unfold Lv.pickL; rw [if_neg h, if_neg h1, if_neg h2, if_pos h3]
theorem pickL_4 {l : List Lv.File} (h : ¬ 4 ≤ ((Lv.atL l 0).length : Int)) (h1 : ¬ 4 < ((Lv.atL l 1).length : Int)) (h2 : ¬ 16 < ((Lv.atL l 2).length : Int)) (h3 : ¬ 64 < ((Lv.atL l 3).length : Int)) : Lv.pickL l = ([], false) := by unfold Lv.pickL; rw [if_neg h, if_neg h1, if_neg h2, if_neg h3]
theorem span_step {l : List Lv.File} {i : Nat} (h : i < l.length) : Lv.spanF ((l.take i).foldl Lv.spanF (Lv.span0 l)) (l.getD i default) = (l.take (i + 1)).foldl Lv.spanF (Lv.span0 l) := (Lv.foldl_snoc Lv.spanF _ h).symm
theorem span_eq (s : List UInt8 × List UInt8) (f : Lv.File) : Lv.spanF s f = (if sless s.1 f.first || s.1 == f.first then s.1 else f.first, if sless s.2 f.last then f.last else s.2) := rfl
attribute [local irreducible] Lv.spanF Lv.span
theorem lvWith (v : Lv.Ver) (n : Int) (l : List Lv.File) (u : Value) (hl : v.files.length ≤ 100000) (h0 : 0 < l.length) (h1 : l.length ≤ 100000) (hn : 0 ≤ n ∧ n ≤ 1000) : CallsC Try.prog 29 [TAgg (Lv.cVer v), okI .i64 n, TAnd (Is u) (TSl 5 Lv.cFile l)] [ownSl u 5 31] (fun _ => TSl 5 Lv.cFile (Lv.withL v.files n l)) (fun _ => [empR]) := by
  have c1 := lvOver
  have hol := Lv.over_len v.files (n + 1) (Lv.span l).1 (Lv.span l).2
  unfold Lv.withL
  refine CallsC.of Try.call29 Try.func29 rfl Try.ntmps29 rfl fun w0 G0 S0 hs ho => ?_
  refine run ?_
  refine HT.loopX (σ := Nat × (List UInt8 × List UInt8)) [1, 2, 3, 6, 19, 20] (fun t => [(7, Is (str t.2.1)), (8, Is (str t.2.2)), (21, okI .i64 (t.1 : Int))]) (fun t => [ownSl u 5 31]) (fun t => t.1 ≤ l.length ∧ t.2 = (l.take t.1).foldl Lv.spanF (Lv.span0 l)) (fun t => l.length - t.1) (0, Lv.span0 l) ⟨Nat.zero_le _, rfl⟩ (run trivial) (run ?_) ?_
  · exact ⟨rfl, rfl⟩
  rintro ⟨i, s⟩ ⟨hi, hs⟩
  dsimp only at hi hs ⊢
  by_cases hlt : i < l.length
  · refine run ?_
    intro _ _
    refine HX.roundX (i + 1, Lv.spanF s (l.getD i default)) ⟨⟨by dsimp only; omega, by dsimp only; rw [hs]; exact span_step hlt⟩, by dsimp only; omega⟩ rfl (run trivial) (by rw [span_eq]; exact run trivial)
  · have hs' : s = Lv.span l := by
      rw [hs, Lv.foldl_full _ _ hlt]
      unfold Lv.span; rfl
    subst hs'
    exact run trivial
end Go.Proofs.Ytohhhaeemephnaa
