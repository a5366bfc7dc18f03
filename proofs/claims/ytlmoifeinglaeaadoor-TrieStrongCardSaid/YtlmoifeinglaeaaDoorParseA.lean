/- Tables of routes (layer 7): Parse, what it gives. -/
import Derived.Test.YtlmoifeinglaeaaDoorCheckB
namespace Go.Proofs.YtlmoifeinglaeaaDoor
open Go.RowKit Go.ChangeMaps

/-- A line's words. -/
def full (x : List UInt8) : Bool := !x.isEmpty
def lineL (l : List UInt8) : List (List UInt8) := (wordsL 32 l).filter full
def lineR : List (List UInt8) → Option (List Rt)
  | [] => some []
  | [m, p, h] => some [⟨m, p, h⟩]
  | _ => none
def linesR : List (List UInt8) → Option (List Rt)
  | [] => some []
  | l :: r => match lineR (lineL l) with
    | none => none
    | some a => (linesR r).map (a ++ ·)
def parseL (s : List UInt8) : List Rt × Nat :=
  match linesR (wordsL 10 s) with
  | none => ([], 1)
  | some l => if checkL l = 0 then (l, 0) else ([], checkL l)

/-- So far: 'out' is made of the first k lines. -/
def LinesAt (l : List (List UInt8)) (out : List Rt) (k : Nat) : Prop := linesR l = (linesR (l.drop k)).map (out ++ ·)

theorem LinesAt.start (l : List (List UInt8)) : LinesAt l [] 0 := by
  unfold LinesAt
  rw [List.drop_zero]
  cases linesR l <;> simp
theorem LinesAt.done {l : List (List UInt8)} {out : List Rt} (h : LinesAt l out l.length) : linesR l = some out := by
  unfold LinesAt at h
  rw [h, List.drop_length]
  simp [linesR]
theorem LinesAt.step {l : List (List UInt8)} {out : List Rt} {k : Nat} (h : LinesAt l out k) (hk : k < l.length) {a : List Rt} (ha : lineR (lineL l[k]) = some a) : LinesAt l (out ++ a) (k + 1) := by
  unfold LinesAt at h ⊢
  rw [h, List.drop_eq_getElem_cons hk, linesR, ha]
  cases linesR (l.drop (k + 1)) <;> simp
theorem LinesAt.wrong {l : List (List UInt8)} {out : List Rt} {k : Nat} (h : LinesAt l out k) (hk : k < l.length) (ha : lineR (lineL l[k]) = none) : linesR l = none := by
  unfold LinesAt at h
  rw [h, List.drop_eq_getElem_cons hk, linesR, ha]
  rfl

theorem filter_take {l : List (List UInt8)} {k : Nat} (hk : k < l.length) : (l.take (k + 1)).filter full = (l.take k).filter full ++ if full l[k] then [l[k]] else [] := by
  rw [List.take_succ_eq_append_getElem hk, List.filter_append]
  congr 1
  cases h : full l[k] <;> simp [h]

theorem info_route : (Tryd.prog.info? 39).map (fun i => (i.zero, i.size, i.bytes)) = some (some (.agg #[.string ByteArray.empty, .string ByteArray.empty, .string ByteArray.empty]), 3, 48) := by kernel_rfl

theorem cells_three (w : World) (a b c : Value) (T : TypeId) : ∀ (j : Nat) (u : Value), [a, b, c][j]? = some u → (w.alloc (.cells #[a, b, c] T)).cell? ((⟨w.heap.size, 0, none⟩ : Addr).add j) = some u := by
  intro j u hj
  match j, hj with
  | 0, hj => simp at hj; subst hj; simp [Addr.add]
  | 1, hj => simp at hj; subst hj; simp [Addr.add]
  | 2, hj => simp at hj; subst hj; simp [Addr.add]

theorem three_cell (a b c : ByteArray) : ∀ u ∈ [Value.string a, .string b, .string c], u.oneCell' = true := by
  intro u hu; simp at hu; rcases hu with rfl | rfl | rfl <;> rfl

theorem rtsC_snoc (l : List Rt) (a b c : List UInt8) : rtsC l ++ [.string (ba a), .string (ba b), .string (ba c)] = rtsC (l ++ [⟨a, b, c⟩]) := by simp [rtsC, Rt.cells]
theorem strs_snoc' (l : List (List UInt8)) (s : List UInt8) : strs l ++ [.string (ba s)] = strs (l ++ [s]) := by simp [strs]

/-- What Parse leaves. -/
def ParPost (w : World) (l : List Rt) (n : Nat) (e : Ending) (w' : World) : Prop :=
  ∃ ao cap, e = .returned (.tuple #[.slice ao l.length cap, .int .i64 (n : Nat)]) ∧ St w (slo 39 3 ao l.length cap (rtsC l)) w'

theorem ParPost.no {w w' : World} {n : Nat} {P : SP} (hS : St w P w') : ParPost w [] n (.returned (.tuple #[.slice none 0 0, .int .i64 (n : Nat)])) w' :=
  ⟨none, 0, rfl, hS.nil.eq (by simp [rtsC, slo_nil])⟩

theorem full_test (x : List UInt8) : (ba x).toList.isEmpty = !full x := by
  rw [toList_bl, bl_ba]
  unfold full
  rw [Bool.not_not]
end Go.Proofs.YtlmoifeinglaeaaDoor
