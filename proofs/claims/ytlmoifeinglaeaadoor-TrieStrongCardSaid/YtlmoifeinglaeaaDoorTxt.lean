/- Texts as lists of bytes. No program in sight. -/
import Derived.Test.YtlmoifeinglaeaaDoorSlo
import Derived.Lib.Strings
import Derived.Lib.IndexBytes
namespace Go.Proofs.YtlmoifeinglaeaaDoor

/-- A text's bytes, and back. -/
def bl (s : ByteArray) : List UInt8 := s.data.toList
def ba (l : List UInt8) : ByteArray := ⟨l.toArray⟩

theorem bl_ba (l : List UInt8) : bl (ba l) = l := by simp [bl, ba]
theorem ba_bl (s : ByteArray) : ba (bl s) = s := by simp [bl, ba]
theorem len_bl (s : ByteArray) : (bl s).length = s.size := by simp [bl]
theorem size_ba (l : List UInt8) : (ba l).size = l.length := by simp [ba, ByteArray.size]
theorem bl_inj {a b : ByteArray} (h : bl a = bl b) : a = b := by rw [← ba_bl a, h, ba_bl]
theorem bl_get (s : ByteArray) (i : Nat) (h : i < s.size) : (bl s)[i]? = some s[i] := Lib.data_getElem? s i h
theorem bl_extract (s : ByteArray) (i j : Nat) : bl (s.extract i j) = ((bl s).drop i).take (j - i) := by
  unfold bl
  rw [Lib.extract_data]
theorem bl_append (a b : ByteArray) : bl (a ++ b) = bl a ++ bl b := by simp [bl]
theorem toList_bl (s : ByteArray) : s.toList = bl s := by
  unfold bl
  rw [← Lib.toList_data]

/-- What is parted by a byte, at least one. -/
def wordsL (by_ : UInt8) : List UInt8 → List (List UInt8)
  | [] => [[]]
  | c :: r => if c = by_ then [] :: wordsL by_ r else
    match wordsL by_ r with
    | h :: t => (c :: h) :: t
    | [] => [[c]]

theorem wordsL_ne (b : UInt8) (l : List UInt8) : wordsL b l ≠ [] := by
  cases l with
  | nil => simp [wordsL]
  | cons c r =>
    unfold wordsL
    split
    · simp
    · split <;> simp

/-- A piece ahead of the first one. -/
def ahead (p : List UInt8) : List (List UInt8) → List (List UInt8)
  | h :: t => (p ++ h) :: t
  | [] => [p]

theorem ahead_nil {l : List (List UInt8)} (h : l ≠ []) : ahead [] l = l := by
  cases l with
  | nil => exact absurd rfl h
  | cons x r => rfl

theorem wordsL_hit (b : UInt8) (r : List UInt8) (p : List UInt8) : ahead p (wordsL b (b :: r)) = p :: wordsL b r := by
  simp [wordsL, ahead]

theorem wordsL_cons (b c : UInt8) (r : List UInt8) (h : c ≠ b) {x : List UInt8} {t : List (List UInt8)} (e : wordsL b r = x :: t) : wordsL b (c :: r) = (c :: x) :: t := by
  rw [wordsL, if_neg h, e]

theorem wordsL_miss (b c : UInt8) (r : List UInt8) (p : List UInt8) (h : c ≠ b) : ahead p (wordsL b (c :: r)) = ahead (p ++ [c]) (wordsL b r) := by
  cases e : wordsL b r with
  | nil => exact absurd e (wordsL_ne b r)
  | cons x t => rw [wordsL_cons b c r h e]; simp [ahead]

theorem drop_cons {α : Type} (l : List α) (i : Nat) (x : α) (h : l[i]? = some x) : l.drop i = x :: l.drop (i + 1) := by
  obtain ⟨hi, e⟩ := List.getElem?_eq_some_iff.1 h
  rw [List.drop_eq_getElem_cons hi, e]

theorem take_snoc' {α : Type} (l : List α) (i : Nat) (x : α) (h : l[i]? = some x) : l.take (i + 1) = l.take i ++ [x] := by
  obtain ⟨hi, e⟩ := List.getElem?_eq_some_iff.1 h
  rw [List.take_succ_eq_append_getElem hi, e]

/-- What 'Words' has done at place i: the pieces that are done, the piece that it is in, what is to come. -/
def WordsAt (b : UInt8) (l : List UInt8) (out : List (List UInt8)) (frm i : Nat) : Prop :=
  frm ≤ i ∧ i ≤ l.length ∧ wordsL b l = out ++ ahead ((l.drop frm).take (i - frm)) (wordsL b (l.drop i))

theorem WordsAt.start (b : UInt8) (l : List UInt8) : WordsAt b l [] 0 0 := by
  refine ⟨Nat.le_refl _, Nat.zero_le _, ?_⟩
  simp [ahead_nil (wordsL_ne b l)]

theorem WordsAt.miss {b c : UInt8} {l : List UInt8} {out : List (List UInt8)} {frm i : Nat} (h : WordsAt b l out frm i) (hc : l[i]? = some c) (hn : c ≠ b) : WordsAt b l out frm (i + 1) := by
  obtain ⟨h1, h2, h3⟩ := h
  have hi := (List.getElem?_eq_some_iff.1 hc).1
  refine ⟨by omega, by omega, ?_⟩
  rw [h3, drop_cons l i c hc, wordsL_miss b c _ _ hn]
  congr 2
  rw [show i + 1 - frm = (i - frm) + 1 by omega, take_snoc' (l.drop frm) (i - frm) c (by rw [List.getElem?_drop, show frm + (i - frm) = i by omega]; exact hc)]

theorem WordsAt.hit {b : UInt8} {l : List UInt8} {out : List (List UInt8)} {frm i : Nat} (h : WordsAt b l out frm i) (hc : l[i]? = some b) :
    WordsAt b l (out ++ [(l.drop frm).take (i - frm)]) (i + 1) (i + 1) := by
  obtain ⟨h1, h2, h3⟩ := h
  have hi := (List.getElem?_eq_some_iff.1 hc).1
  refine ⟨by omega, by omega, ?_⟩
  rw [h3, drop_cons l i b hc, wordsL_hit]
  simp [ahead_nil (wordsL_ne b _)]

theorem WordsAt.done {b : UInt8} {l : List UInt8} {out : List (List UInt8)} {frm : Nat} (h : WordsAt b l out frm l.length) :
    wordsL b l = out ++ [(l.drop frm).take (l.length - frm)] := by
  obtain ⟨h1, h2, h3⟩ := h
  rw [h3]
  simp [wordsL, ahead]

theorem WordsAt.few {b : UInt8} {l : List UInt8} {out : List (List UInt8)} {frm i : Nat} (h : WordsAt b l out frm i) (k : out.length ≤ i) : out.length ≤ l.length := Nat.le_trans k h.2.1

end Go.Proofs.YtlmoifeinglaeaaDoor
