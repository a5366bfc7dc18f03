/- Tables of routes (layer 7): Check. -/
import Derived.Test.YtlmoifeinglaeaaDoorCheckA
namespace Go.Proofs.YtlmoifeinglaeaaDoor
open Go.RowKit Go.ChangeMaps

/-- Routes that can be read. -/
def Rts (w : World) (ao : Option Addr) (l : List Rt) : Prop :=
  l = [] ∨ ∃ g off, ao = some ⟨g, off, none⟩ ∧ ∀ j (h : j < l.length), w.cell? ⟨g, off + j * 3, none⟩ = some (.string (ba l[j].m)) ∧ w.cell? ⟨g, off + j * 3 + 1, none⟩ = some (.string (ba l[j].p)) ∧ w.cell? ⟨g, off + j * 3 + 2, none⟩ = some (.string (ba l[j].h))

theorem Rts.step {w w' : World} {ao : Option Addr} {l : List Rt} {P : SP} (h : Rts w ao l) (hS : St w P w') : Rts w' ao l := by
  rcases h with h | ⟨g, off, e, hc⟩
  · exact .inl h
  · refine .inr ⟨g, off, e, fun j hj => ?_⟩
    obtain ⟨h1, h2, h3⟩ := hc j hj
    exact ⟨by rw [hS.below.cell (p := ⟨g, off + j * 3, none⟩) (World.block_lt_of_cell? w _ h1)]; exact h1,
      by rw [hS.below.cell (p := ⟨g, off + j * 3 + 1, none⟩) (World.block_lt_of_cell? w _ h2)]; exact h2,
      by rw [hS.below.cell (p := ⟨g, off + j * 3 + 2, none⟩) (World.block_lt_of_cell? w _ h3)]; exact h3⟩

def rtsC (l : List Rt) : List Value := l.flatMap Rt.cells
theorem rtsC_length (l : List Rt) : (rtsC l).length = l.length * 3 := by
  induction l with
  | nil => rfl
  | cons x r ih => simp only [rtsC, List.flatMap_cons, List.length_append, List.length_cons] at ih ⊢; rw [ih]; simp [Rt.cells]; omega
theorem rtsC_get (l : List Rt) : ∀ (j : Nat) (h : j < l.length), (rtsC l)[j * 3]? = some (.string (ba l[j].m)) ∧ (rtsC l)[j * 3 + 1]? = some (.string (ba l[j].p)) ∧ (rtsC l)[j * 3 + 2]? = some (.string (ba l[j].h)) := by
  induction l with
  | nil => intro j h; simp at h
  | cons x r ih =>
    intro j h
    match j, h with
    | 0, _ => exact ⟨rfl, rfl, rfl⟩
    | j + 1, h =>
      have hj : j < r.length := by simpa using h
      have := ih j hj
      simp only [rtsC, List.flatMap_cons] at this ⊢
      have hc : x.cells.length = 3 := rfl
      refine ⟨?_, ?_, ?_⟩
      · rw [List.getElem?_append_right (by omega), hc, show (j + 1) * 3 - 3 = j * 3 by omega]; exact this.1
      · rw [List.getElem?_append_right (by omega), hc, show (j + 1) * 3 + 1 - 3 = j * 3 + 1 by omega]; exact this.2.1
      · rw [List.getElem?_append_right (by omega), hc, show (j + 1) * 3 + 2 - 3 = j * 3 + 2 by omega]; exact this.2.2

theorem St.rts {w0 w : World} {ao : Option Addr} {n cap : Nat} {l : List Rt} {R : SP} (h : St w0 (slo 39 3 ao n cap (rtsC l) * R) w) : Rts w ao l := by
  have hl := h.slo_len.1
  rw [rtsC_length] at hl
  have hl2 : l.length = n := by omega
  by_cases h0 : l = []
  · exact .inl h0
  · obtain ⟨g, off, e, hc⟩ := h.slo_cell (by have := List.length_pos_iff.2 h0; omega)
    refine .inr ⟨g, off, e, fun j hj => ?_⟩
    obtain ⟨h1, h2, h3⟩ := rtsC_get l j hj
    exact ⟨by rw [hc _ (by omega)]; exact h1, by rw [Nat.add_assoc, hc _ (by omega)]; exact h2, by rw [Nat.add_assoc, hc _ (by omega)]; exact h3⟩

theorem Rts.get {w : World} {ao : Option Addr} {l : List Rt} (h : Rts w ao l) {k : Nat} (hk : k < l.length) :
    ∃ g off, ao = some ⟨g, off, none⟩ ∧ w.cell? ⟨g, off + k * 3, none⟩ = some (.string (ba l[k].m)) ∧ w.cell? ⟨g, off + k * 3 + 1, none⟩ = some (.string (ba l[k].p)) ∧ w.cell? ⟨g, off + k * 3 + 2, none⟩ = some (.string (ba l[k].h)) := by
  rcases h with h | ⟨g, off, e, hc⟩
  · subst h; simp at hk
  · exact ⟨g, off, e, hc k hk⟩

theorem wordsL_total (b : UInt8) (l : List UInt8) : total (wordsL b l) ≤ l.length * 2 + 2 := by
  induction l with
  | nil => simp [wordsL, total]
  | cons c r ih =>
    unfold wordsL
    split
    · simp only [total, List.map_cons, List.sum_cons, List.length_nil, List.length_cons] at ih ⊢; omega
    · split
      · rename_i h t e
        rw [e] at ih
        simp only [total, List.map_cons, List.sum_cons, List.length_cons] at ih ⊢; omega
      · simp [total]; omega

theorem patL_total (s : List UInt8) : total (patL s).1 ≤ s.length * 2 + 2 := by
  unfold patL
  split
  · simp [total]
  · split
    · simp [total]
    · split
      · have := wordsL_total 47 s.tail
        have h2 : s.tail.length ≤ s.length := by simp
        simp only
        omega
      · simp [total]

theorem patL_len (s : List UInt8) : (patL s).1.length ≤ s.length + 1 := by
  unfold patL
  split
  · simp
  · split
    · simp
    · split
      · have := wordsL_len 47 s.tail
        have h2 : s.tail.length ≤ s.length := by simp
        simp only
        omega
      · simp

/-- What two routes may not have in common. -/
def keyR (r : Rt) : List UInt8 × List UInt8 := (r.m, shapeL (patL r.p).1)
def checkL (l : List Rt) : Nat := if l.all rightB then if 24 < l.length then 2 else if (l.map keyR).Nodup then 0 else 3 else 1

theorem lg_keys (ks : List (List UInt8 × List UInt8)) (k : List UInt8 × List UInt8) : lg (ks.map fun x => (x, Value.bool true)) k = if k ∈ ks then some (.bool true) else none := by
  induction ks with
  | nil => rfl
  | cons x r ih =>
    unfold lg at ih ⊢
    by_cases h : k = x
    · subst h; simp
    · rw [List.map_cons, List.find?_cons]
      simp only [h, decide_false]
      rw [ih]
      simp [h]
end Go.Proofs.YtlmoifeinglaeaaDoor
