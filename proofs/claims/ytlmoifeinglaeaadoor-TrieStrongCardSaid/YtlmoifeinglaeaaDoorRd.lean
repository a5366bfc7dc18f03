/- Slices that are read only: their cells; append behind a slice that is full (always a new array, owned). No program in sight. -/
import Derived.Test.YtlmoifeinglaeaaDoorSlo
namespace Go.Proofs.YtlmoifeinglaeaaDoor
open Go.RowKit

/-- The slice's cells can be read. -/
def Cells (w : World) (sz : Nat) (ao : Option Addr) (n : Nat) (xs : List Value) : Prop :=
  xs.length = n * sz ∧ ((ao = none ∧ n = 0) ∨ ∃ g off, ao = some ⟨g, off, none⟩ ∧ g < w.heap.size ∧ ∀ j, j < n * sz → w.cell? ⟨g, off + j, none⟩ = xs[j]?)

section
variable {w0 w w' : World} {R P : SP} {E : TypeId} {sz : Nat} {ao : Option Addr} {n cap : Nat} {xs : List Value}

theorem Cells.step (h : Cells w sz ao n xs) (hS : St w P w') : Cells w' sz ao n xs := by
  obtain ⟨h1, h2 | ⟨g, off, e, hg, hc⟩⟩ := h
  · exact ⟨h1, .inl h2⟩
  · refine ⟨h1, .inr ⟨g, off, e, Nat.lt_of_lt_of_le hg hS.size, fun j hj => ?_⟩⟩
    rw [hS.below.cell (p := ⟨g, off + j, none⟩) hg]
    exact hc j hj

theorem St.cells (h : St w0 (slo E sz ao n cap xs * R) w) : Cells w sz ao n xs := by
  refine ⟨h.slo_len.1, ?_⟩
  rcases h.slo_open with ⟨h1, h2, _⟩ | ⟨g, off, cur, e, _, hc, hS⟩
  · exact .inl ⟨h1, h2⟩
  · exact .inr ⟨g, off, e, hS.lt, fun j hj => by rw [hS.cell]; exact hc j hj⟩

theorem St.slo_none (h : St w0 (slo E sz none n cap xs * R) w) : cap = 0 := by
  rcases h.slo_open with ⟨_, _, h3, _⟩ | ⟨g, off, cur, e, _⟩
  · exact h3
  · cases e

/-- append behind a full slice. -/
theorem run_append_full {Pr : Program} (h : Cells w sz ao n xs) (hS : St w0 R w) (t ty : TypeId) (i : TypeInfo) (z : Value) (bytes : Nat)
    (ht : Pr.underlying t = some (.slice E)) (hi : Pr.info? E = some i) (hz : i.zero = some z) (hsize : i.size = sz) (hby : i.bytes = bytes) (hzs : z.cells.size = sz) (hsz : 0 < sz)
    (a : Addr) (m c : Nat) (news : List Value) (hm : 0 < m) (hl : news.length = m * sz) (hnews : ∀ j u, news[j]? = some u → w.cell? (a.add j) = some u)
    (hbytes : (n + m) * bytes ≤ 140737488355328) (hmax : n + m ≤ maxLen) :
    ∃ ao' cap' w', (Builtin.append_ #[t, t] ty #[.slice ao n n, .slice (some a) m c]).run Pr w = .ok (.slice ao' (n + m) cap') w' ∧
      St w0 (slo E sz ao' (n + m) cap' (xs ++ news) * R) w' := by
  subst hsize
  subst hby
  have hsmall : n + m ≤ 9223372036854775807 := by simp only [maxLen] at hmax; omega
  obtain ⟨hl0, hrd⟩ := h
  have hlen : (xs ++ news).length = (n + m) * i.size := by rw [List.length_append, hl0, hl, Nat.add_mul]
  have grown : ∀ (old : Nat), old < n + m → St w0 (slo E i.size (some ⟨w.heap.size, 0, none⟩) (n + m) (grownCap w (n + m) old E) (xs ++ news) * R)
      (w.drew.alloc (.cells (xs.toArray ++ news.toArray ++ Builtin.zeroCells z.cells (grownCap w (n + m) old E - (n + m))) E)) := by
    intro old ho
    have hge := grownCap_ge w (n + m) old E
    have hcm : grownCap w (n + m) old E ≤ maxLen := grownCap_le_maxLen w (n + m) old E hmax
    have hS' : St w0 (SP.blk w.heap.size (.cells (xs.toArray ++ news.toArray ++ Builtin.zeroCells z.cells (grownCap w (n + m) old E - (n + m))) E (0, 0)) * R)
      (w.drew.alloc (.cells (xs.toArray ++ news.toArray ++ Builtin.zeroCells z.cells (grownCap w (n + m) old E - (n + m))) E)) := hS.drew.alloc _
    refine hS'.mono (slo_mk hlen hge hcm ?_ ?_)
    · simp only [Array.size_append, List.size_toArray, size_zeroCells, hzs, hl0, hl, ← Nat.add_mul, Nat.zero_add]
      apply Nat.le_of_eq
      congr 1
      omega
    · intro j hj
      rw [← hlen] at hj
      rw [Nat.zero_add, Array.getElem?_append_left (by simpa using hj)]
      simp
  rcases hrd with ⟨rfl, rfl⟩ | ⟨g, off, rfl, hg, hc⟩
  · have hx : xs = [] := List.eq_nil_of_length_eq_zero (by simpa using hl0)
    subst hx
    have hr := run_append_nil (P := Pr) w t ty E i z ht hi hz a m c news hl hnews (by omega) (by omega) (by have hb := hbytes; simp only [Nat.zero_add] at hb; omega)
    have hgr := grown 0 (by omega)
    simp only [Nat.zero_add, List.nil_append, Array.empty_append] at hgr ⊢
    exact ⟨_, _, _, hr, hgr⟩
  · have holds : ∀ j u, xs[j]? = some u → w.cell? ((⟨g, off, none⟩ : Addr).add j) = some u := by
      intro j u hu
      have hj : j < n * i.size := by rw [← hl0]; exact (List.getElem?_eq_some_iff.1 hu).1
      rw [add_none, hc j hj, hu]
    have hr := run_append_grow (P := Pr) w t ty E i z ht hi hz ⟨g, off, none⟩ n n xs hl0 holds a m c news hl hnews (by omega) (by omega) (growslice_fits (by omega) hbytes)
    exact ⟨_, _, _, hr, grown n (by omega)⟩

/-- The same, as one step of a region that draws its order. -/
theorem step_append_full {Pr : Program} {ops : Array Oper} {o : Oper} {act : Act} {K : Act → World → Prop} {Q : Exit → Act → World → Prop} {el : Prop}
    (hg : o.guard = none) (s x : Operand) (t : TypeId) (hop : o.op = Op.call { callee := Callee.builtin Builtin.append, args := #[s, x], argTypes := #[t, t] })
    (i : TypeInfo) (z : Value) (bytes : Nat)
    (ht : Pr.underlying t = some (.slice E)) (hi : Pr.info? E = some i) (hz : i.zero = some z) (hsize : i.size = sz) (hby : i.bytes = bytes) (hzs : z.cells.size = sz) (hsz : 0 < sz)
    (h : Cells w sz ao n xs) (hS : St w0 R w) (hs : act.eval s = .slice ao n n)
    (a : Addr) (m c : Nat) (news : List Value) (hm : 0 < m) (hx : act.eval x = .slice (some a) m c) (hl : news.length = m * sz) (hnews : ∀ j u, news[j]? = some u → w.cell? (a.add j) = some u)
    (hbytes : (n + m) * bytes ≤ 140737488355328) (hmax : n + m ≤ maxLen)
    (hK : ∀ ao' cap' w', St w0 (slo E sz ao' (n + m) cap' (xs ++ news) * R) w' → K (act.put o.dst (.slice ao' (n + m) cap')) w') :
    if Region.wanted o (yielded ops act.tmps) = true then Oper.wp Pr o act w K Q else el := by
  have hw : Region.wanted o (yielded ops act.tmps) = true := by simp [Region.wanted, hg]
  rw [if_pos hw]
  obtain ⟨ao', cap', w', hrun, r1⟩ := run_append_full (Pr := Pr) h hS t o.type i z bytes ht hi hz hsize hby hzs hsz a m c news hm hl hnews hbytes hmax
  unfold Oper.wp
  simp [execOp, hop, resolve, invoke, builtin, hs, hx, hrun, Result.andThen]
  exact hK ao' cap' w' r1
end
#print axioms step_append_full
end Go.Proofs.YtlmoifeinglaeaaDoor
