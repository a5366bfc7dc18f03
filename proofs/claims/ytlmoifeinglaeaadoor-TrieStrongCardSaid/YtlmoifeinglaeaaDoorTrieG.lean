/- Trees of routes (layer 8): edges that turn; a node that is shut. -/
import Derived.Test.YtlmoifeinglaeaaDoorTrieE
namespace Go.Proofs.YtlmoifeinglaeaaDoor
open Go.RowKit

/-- One cell of an owned slice turns. -/
theorem St.slo_set {w0 w : World} {R : SP} {E : TypeId} {sz n cap g off : Nat} {xs : List Value} (h : St w0 (slo E sz (some ⟨g, off, none⟩) n cap xs * R) w) {j : Nat} (hj : j < n * sz) (v : Value) :
    St w0 (slo E sz (some ⟨g, off, none⟩) n cap (xs.set j v) * R) (w.setCell ⟨g, off + j, none⟩ v) := by
  have hl := h.slo_len
  rcases h.slo_open with ⟨h1, _⟩ | ⟨g', off', cur, e, hb, hc, hS⟩
  · cases h1
  · cases e
    have hle : n * sz ≤ cap * sz := Nat.mul_le_mul_right _ hl.2.1
    refine (hS.setCell (i := off + j) v).mono (slo_mk (by simpa using hl.1) hl.2.1 hl.2.2 (by simpa using hb) ?_)
    intro i hi
    by_cases e : i = j
    · subst e
      have h1 : off + i < cur.size := by omega
      have h2 : i < xs.length := by omega
      simp [h1, h2]
    · rw [Array.getElem?_setIfInBounds_ne (by omega), List.getElem?_set_ne (by omega)]
      exact hc i hi

theorem St.slo_at {w0 w : World} {R : SP} {E : TypeId} {sz n cap g off : Nat} {xs : List Value} (h : St w0 (slo E sz (some ⟨g, off, none⟩) n cap xs * R) w) {j : Nat} (hj : j < n * sz) :
    w.cell? ⟨g, off + j, none⟩ = xs[j]? ∧ w.frozen? ⟨g, off + j, none⟩ = false := by
  rcases h.slo_open with ⟨h1, _⟩ | ⟨g', off', cur, e, hb, hc, hS⟩
  · cases h1
  · cases e
    exact ⟨by rw [hS.cell]; exact hc j hj, hS.free _⟩

theorem St.slo_ne {w0 w : World} {R : SP} {E : TypeId} {sz n cap g off b : Nat} {o : Obj} {xs : List Value} (h : St w0 (slo E sz (some ⟨g, off, none⟩) n cap xs * (SP.blk b o * R)) w) : b ≠ g := by
  rcases h.slo_open with ⟨h1, _⟩ | ⟨g', off', cur, e, hb, hc, hS⟩
  · cases h1
  · cases e
    exact hS.ne.symm
theorem cell_ne {w : World} {b g i j : Nat} {v : Value} (h : b ≠ g) : (w.setCell ⟨g, i, none⟩ v).cell? ⟨b, j, none⟩ = w.cell? ⟨b, j, none⟩ := by
  have hh : (w.setCell ⟨g, i, none⟩ v).heap[b]? = w.heap[b]? := Below.heap_setCell w ⟨g, i, none⟩ v b h
  simp only [World.cell?, hh]

/-- An edge that is owned. -/
theorem St.edge_at {w0 w : World} {R : SP} {cap g off : Nat} {l : List Ed} (h : St w0 (slo 107 2 (some ⟨g, off, none⟩) l.length cap (edC l) * R) w) {k : Nat} (hk : k < l.length) :
    (w.cell? ⟨g, off + k * 2, none⟩ = some (.string (ba l[k].1)) ∧ w.frozen? ⟨g, off + k * 2, none⟩ = false) ∧
    w.cell? ⟨g, off + k * 2 + 1, none⟩ = some (.pointer l[k].2.1) ∧ w.frozen? ⟨g, off + k * 2 + 1, none⟩ = false := by
  obtain ⟨e1, e2⟩ := edC_get l k hk
  have h1 := h.slo_at (j := k * 2) (by omega)
  have h2 := h.slo_at (j := k * 2 + 1) (by omega)
  rw [e1] at h1
  rw [e2, ← Nat.add_assoc] at h2
  exact ⟨h1, h2⟩

theorem edC_set (l : List Ed) (k : Nat) (a : List UInt8) (p : Option Addr) (T : Nd) : k < l.length → edC (l.set k (a, p, T)) = ((edC l).set (k * 2) (.string (ba a))).set (k * 2 + 1) (.pointer p) := by
  induction l generalizing k with
  | nil => intro h; simp at h
  | cons x l ih =>
    intro h
    cases k with
    | zero => simp [edC]
    | succ k =>
      have := ih k (by simpa using h)
      simp only [edC, List.set_cons_succ, List.flatMap_cons] at this ⊢
      rw [this, show (k + 1) * 2 = k * 2 + 1 + 1 by omega]
      rfl
theorem edC_set1 (l : List Ed) (k : Nat) (p : Option Addr) (T : Nd) (h : k < l.length) : edC (l.set k (l[k].1, p, T)) = (edC l).set (k * 2 + 1) (.pointer p) := by
  rw [edC_set l k _ p T h]
  congr 1
  have e := (edC_get l k h).1
  obtain ⟨h1, h2⟩ := List.getElem?_eq_some_iff.1 e
  rw [← h2, List.set_getElem_self]
theorem edT_set (l : List Ed) (k : Nat) (a : List UInt8) (p : Option Addr) (T : Nd) : edT (l.set k (a, p, T)) = (edT l).set k (a, T) := by simp [edT]

/-- A node of a call's own, shut. -/
theorem made_of {w w6 : World} {M : Nat} (hMM : M ≤ 1000000) {A B : Nat → Prop} {t' : Nd} {b ecap : Nat} {eo vn vp vr ro : Option Addr} {l : List Ed} {R : SP}
    (h : St w (SP.blk b (.cells #[.slice eo l.length ecap, .pointer vn, .pointer vp, .pointer vr, .slice ro t'.en.length t'.en.length] 92) * (slo 107 2 eo l.length ecap (edC l) * R)) w6)
    (he : t'.es = edT l) (hM : l.length ≤ M) (hM2 : t'.en.length ≤ M) (hx : ∀ t ∈ l, t.1.length ≤ 1000000) (hl : ∀ t ∈ l, Rep w6 M B t.2.1 t.2.2)
    (hn : Rep w6 M B vn t'.nx) (hp : Rep w6 M B vp t'.pm) (hr : Rep w6 M B vr t'.rs) (hen : Cells w6 3 ro t'.en.length (rtsC t'.en)) (henB : ∀ g off, ro = some ⟨g, off, none⟩ → B g) (hrn : ro = none → t'.en.length = 0)
    (hB : ∀ x, B x → A x ∨ w.heap.size ≤ x) : Made w M A (.node t'.es t'.nx t'.pm t'.rs t'.en) (.returned (.pointer (adr b))) w6 := by
  have hb := h.blk
  have hs := h.drop
  have hm : ∀ {v : Option Addr} {u : Nd}, Rep w6 M B v u → Rep w6 M (fun x => A x ∨ w.heap.size ≤ x) v u := fun k => k.more (Nat.le_refl M) fun b hb _ => hB b hb
  refine ⟨b, rfl, .node hb (.inr h.ge) he hs.cells (fun g off e => ?_) (fun e => by subst e; exact hs.slo_none) hM hM2 hx (fun t ht => hm (hl t ht)) (hm hn) (hm hp) (hm hr) hen (fun g off e => hB _ (henB g off e)) (Nat.le_refl _) hrn (by unfold maxLen; omega), h.nil⟩
  rcases hs.slo_open with ⟨h2, _⟩ | ⟨g', off', cur, e', _, _, hS'⟩
  · rw [h2] at e; cases e
  · rw [e'] at e; cases e; exact .inr hS'.ge
end Go.Proofs.YtlmoifeinglaeaaDoor
